/- All names of some heads, in order: leaf.Names. -/
import Derived.Test.YtmonfmmcgfmeeaaGreatDoorCo
import Derived.Test.YtmonfmmcgfmeeaaGreatDoorShD
import Derived.Test.YtmonfmmcgfmeeaaGreatDoorDr
import Derived.Test.YtmonfmmcgfmeeaaGreatDoorCl
import Derived.Lib.OwnBridge
namespace Go.Proofs.YtmonfmmcgfmeeaaGreatDoor.Lf
open Go.RowKit Go.Shelf Go.Lib Go.Proofs.YtmonfmmcgfmeeaaGreatDoorW.PrintWords
open Go.Sort (grow putRow putCells Holds SortedIn PermIn SWO heap_grow_old mapBlock onCells)
set_option linter.unusedVariables false
set_option linter.unusedSimpArgs false

theorem names1_any (s : ByteArray) (w : World) : Calls Tryz.prog 18 #[.string s] w fun e w' => e = .returned (.bool (decide (s.size = 0))) ∧ ∃ q, w' = w.drewN q := by
  by_cases h : s.size = 0
  · have h1 : s.toList = [] := toList_nil.2 h
    have h2 : (s.toList == []) = true := by rw [h1]; rfl
    have h3 : decide (s.size = 0) = true := decide_eq_true h
    rw [h3]
    clear h h3
    go_enter Tryz.func18, Tryz.ntmps18
    go_wp2
    go_ret
    exact ⟨by simp_all, 0, rfl⟩
  · have h1 : s.toList ≠ [] := fun e => h (toList_nil.1 e)
    have h2 : (s.toList == []) = false := by rw [beq_eq_false_iff_ne]; exact h1
    have h3 : decide (s.size = 0) = false := decide_eq_false h
    rw [h3]
    clear h h3
    go_enter Tryz.func18, Tryz.ntmps18
    go_wp2
    go_ret
    exact ⟨by simp_all, 0, rfl⟩

theorem hd_one : OneCell hdEnc := fun _ => rfl
theorem hd_zero : hdEnc default = .string ByteArray.empty := rfl

/-- Clone. -/
theorem clones_any (A : Option Addr) (c : Nat) (zs : List Hd) (w : World) (ad : Addr) (hA : A = some ad) (hr : Kd.C Kd.string w A zs.length (zs.map (·.1))) (hb : zs.length ≤ 1000000) :
    Calls Tryz.prog 17 #[.slice A zs.length c] w fun e w' => ∃ v, e = .returned v ∧ w'.ownsRow w.heap.size 9 1 v zs.length (zs.map hdEnc) ∧ v ≠ .slice none 0 0 ∧ Below w.heap.size w w' := by
  subst hA
  obtain ⟨i0, hi, hzz⟩ := Option.map_eq_some_iff.1 info9b
  simp only [Prod.mk.injEq] at hzz
  obtain ⟨hz0, hz1, hz2⟩ := hzz
  refine (clone_some Tryz.laysCloneS i0 (.string ByteArray.empty) 1 16 hi hz0 hz1 hz2 rfl (by decide) (fun w => Tryz.sizeOf9 w) ad zs.length c (zs.map hdEnc) w (by simp) (by simp only [maxLen]; omega) (by omega) ?_ ?_)
  · intro j u hj
    have hlt : j < zs.length := by have := (List.getElem?_eq_some_iff.1 hj).1; simpa using this
    obtain ⟨ad', e, hcell⟩ := Kd.at_string hr (j : Int) (by omega) (by simp; omega)
    obtain rfl := Option.some.inj e
    rw [List.getElem?_map, List.getElem?_eq_getElem hlt] at hj
    obtain rfl := Option.some.inj hj
    rw [rdOf, Int.toNat_natCast, List.getD_eq_getElem?_getD, List.getElem?_map, List.getElem?_eq_getElem hlt] at hcell
    simpa [hdEnc] using hcell
  · intro u hu
    obtain ⟨x, _, rfl⟩ := List.mem_map.1 hu
    rfl

/-- DeleteFunc. -/
theorem dels_any (v : Value) (zs : List Hd) (w : World) (base : Nat) (ho : w.ownsRow base 9 1 v zs.length (zs.map hdEnc)) (hv : v ≠ .slice none 0 0) (hb : zs.length ≤ 1000000) :
    Calls Tryz.prog 16 #[v, .func (.func 18) #[] #[]] w fun e w' => ∃ v' ys, e = .returned v' ∧ ys = zs.filter (fun x => !decide (x.1.size = 0)) ∧ w'.ownsRow base 9 1 v' ys.length (ys.map hdEnc) ∧ v' ≠ .slice none 0 0 ∧ Below base w w' := by
  obtain ⟨g, cap, rfl, hbg, hgl, hncap, hcm, hlen, hH⟩ := Lib.holds_of_ownsRow ho hv
  have h := AnyE.slices_DeleteFunc Tryz.laysDelS hdEnc hd_one (fun x => decide (x.1.size = 0)) 18 #[] (enters_of Tryz.func18 (by kernel_rfl) rfl) default (fun w => Tryz.zeroValue9 w) g 0 cap zs.toArray w (fun W x _ => names1_any x.1 W) (fun n os dk x _ => names1_any x.1 _) hH (by simp; omega) (by simpa using hncap)
  refine h.mono ?_
  rintro e w' ⟨rfl, q, rfl⟩
  refine ⟨_, _, rfl, rfl, ?_, by simp, Lib.below_putRow (Below.refl _ _) hbg⟩
  have hle : (zs.filter fun x => !decide (x.1.size = 0)).length ≤ zs.length := List.length_filter_le _ _
  have := Lib.ownsRow_putRow (q := q) (k := (zs.filter fun x => !decide (x.1.size = 0)).length) (ys := (zs.filter fun x => !decide (x.1.size = 0)) ++ List.replicate (zs.length - (zs.filter fun x => !decide (x.1.size = 0)).length) default) ho (by rw [List.length_append, List.length_replicate]; omega) hle
  rw [List.take_left] at this
  simpa using this

theorem ownsRow_grow {w : World} {base size n : Nat} {e : TypeId} {v : Value} {xs : List Value} (h : w.ownsRow base e size v n xs) (os : Array Obj) : (grow w os).ownsRow base e size v n xs := by
  refine ⟨h.1, h.2.imp_right ?_⟩
  rintro ⟨g, cap, cur, e1, h1, h2, h3⟩
  refine ⟨g, cap, cur, e1, h1, ?_, h3⟩
  rw [heap_grow_old _ _ (Array.getElem?_eq_some_iff.1 h2).1]
  exact h2
theorem below_grow {B : Nat} {w w' : World} (h : Below B w w') (hB : B ≤ w'.heap.size) (os : Array Obj) : Below B w (grow w' os) :=
  ⟨h.os, h.tape, h.output, by have := h.size; simp; omega, fun k hk => by rw [heap_grow_old _ _ (by omega)]; exact h.block k hk⟩

/-- SortFunc. -/
theorem sorts_any (v : Value) (zs : List Hd) (w0 w : World) (m : Int) (ho : w.ownsRow w0.heap.size 9 1 v zs.length (zs.map hdEnc)) (hv : v ≠ .slice none 0 0) (hb : zs.length ≤ 1000000)
    (hT : Lib.Utf8Tabs 0 1 w0) (hm : w0.cell? ⟨2, 0, none⟩ = some (.int .i64 m)) (hbl : Below w0.heap.size w0 w) :
    Calls Tryz.prog 19 #[v, .func (.func 20) #[] #[]] w fun e w' => ∃ ts : List Hd, e = .returned (.tuple #[]) ∧ ts.length = zs.length ∧ (∀ x, x ∈ ts ↔ x ∈ zs) ∧ SortedIn (ltOf hdCmp) 0 ts.length ts.toArray ∧ w'.ownsRow w0.heap.size 9 1 v ts.length (ts.map hdEnc) ∧ Below w0.heap.size w0 w' := by
  obtain ⟨g, cap, rfl, hbg, hgl, hncap, hcm, hlen, hH⟩ := Lib.holds_of_ownsRow ho hv
  have hsw : ∀ n os (dk : Array Hd), Below w0.heap.size w0 (sortWorld hdEnc w g 0 n dk os) := fun n os dk => below_grow (Lib.below_putRow hbl hbg) (by simpa [putRow, mapBlock, Sort.ahead] using hbl.size) os
  have hcmp : CmpLays1 Tryz.prog 20 #[] hdEnc hdCmp g 0 zs.toArray.size w := fun n os dk _ x y =>
    Dr.calls_grow (order_any x.1 y.1 m (sortWorld hdEnc w g 0 n dk os) (by have := x.2; omega) (by have := y.2; omega) (Utf8Tabs_below hT (hsw n os dk)) (pw_cell_below (hsw n os dk) hm))
  have h := Any.slices_SortFunc Tryz.laysSortS hdEnc hd_one hdCmp hd_tc.swo 20 #[] g 0 cap zs.toArray w (enters_of Tryz.func20 (by kernel_rfl) rfl) hcmp hH hgl (by simp; omega)
  simp only [List.size_toArray] at h
  refine h.mono ?_
  rintro e w' ⟨rfl, d', n, os, hp, hs, rfl⟩
  have hsz : d'.toList.length = zs.length := by simpa using hp.1
  refine ⟨d'.toList, rfl, hsz, ?_, ?_, ?_, hsw n os d'⟩
  · intro x
    have h3 := hp.2.2
    have e1 : (d'.extract 0 zs.length).toList = d'.toList := by rw [Array.toList_extract, List.extract_eq_take_drop, List.drop_zero, List.take_of_length_le (by omega)]
    have e2 : (zs.toArray.extract 0 zs.length).toList = zs := by rw [Array.toList_extract, List.extract_eq_take_drop, List.drop_zero, List.take_of_length_le (by simp)]
    rw [e1, e2] at h3
    exact h3.mem_iff
  · rw [hsz]; simpa using hs
  · have := Lib.ownsRow_putRow (q := n) (k := zs.length) (ys := d'.toList) ho hsz (Nat.le_refl _)
    rw [List.take_of_length_le (by omega)] at this
    rw [hsz]
    have := ownsRow_grow this os
    simpa [sortWorld] using this

/-- Compact. -/
theorem compacts_any (v : Value) (zs : List Hd) (w : World) (base : Nat) (ho : w.ownsRow base 9 1 v zs.length (zs.map hdEnc)) (hv : v ≠ .slice none 0 0) (hb : zs.length ≤ 1000000) :
    Calls Tryz.prog 21 #[v] w fun e w' => ∃ v' ys, e = .returned v' ∧ ys = Lib.compactUpTo zs.toArray zs.length ∧ w'.ownsRow base 9 1 v' ys.length (ys.map hdEnc) ∧ Below base w w' := by
  obtain ⟨g, cap, rfl, hbg, hgl, hncap, hcm, hlen, hH⟩ := Lib.holds_of_ownsRow ho hv
  have hdec : (fun x y : Hd => decide (x = y)) = fun x y : Hd => x.1.toList == y.1.toList := by
    funext x y
    rw [Bool.eq_iff_iff, decide_eq_true_eq, beq_iff_eq]
    exact ⟨fun e => by rw [e], fun e => Subtype.ext (toList_inj e)⟩
  have h := AnyE.slices_Compact Tryz.laysCompactS hdEnc hd_one (by rw [hdec]; exact ⟨fun x y W => (EqlAt.string Tryz.prog 9).1 x.1 y.1 W, fun op a b x y W => (EqlAt.string Tryz.prog 9).2 op a b x.1 y.1 W⟩) (by rw [hdec]; exact ⟨fun x y W => (NeqAt.string Tryz.prog 9).1 x.1 y.1 W, fun op a b x y W => (NeqAt.string Tryz.prog 9).2 op a b x.1 y.1 W⟩) default (fun w => Tryz.zeroValue9 w) g 0 cap zs.toArray w hH (by simp; omega) (by simpa using hncap)
  simp only [List.size_toArray] at h
  refine h.mono ?_
  rintro e w' ⟨rfl, q, rfl⟩
  have hle : (Lib.compactUpTo zs.toArray zs.length).length ≤ zs.length := by
    unfold Lib.compactUpTo
    rw [List.length_map]
    exact Nat.le_trans (List.length_filter_le _ _) (by simp)
  refine ⟨_, _, rfl, rfl, ?_, Lib.below_putRow (Below.refl _ _) hbg⟩
  have := Lib.ownsRow_putRow (q := q) (k := (Lib.compactUpTo zs.toArray zs.length).length) (ys := Lib.compactUpTo zs.toArray zs.length ++ List.replicate (zs.length - (Lib.compactUpTo zs.toArray zs.length).length) default) ho (by simp; omega) hle
  rw [List.take_left] at this
  simpa using this

theorem names_of {zs ys ts ns : List Hd} (hy : ys = zs.filter (fun x => !decide (x.1.size = 0))) (hl : ts.length = ys.length) (hm : ∀ x, x ∈ ts ↔ x ∈ ys) (hs : SortedIn (ltOf hdCmp) 0 ts.length ts.toArray) (hn : ns = Lib.compactUpTo ts.toArray ts.length) :
    NamesOf (zs.map (·.1)) (ns.map (·.1)) := by
  obtain ⟨h1, h2, h3⟩ := Tc.compact_of hd_tc ts.toArray (by simpa using hs) ts.length (by simp)
  rw [← hn] at h1 h2 h3
  have hmem : ∀ x, x ∈ ns ↔ x ∈ ts := by
    intro x
    rw [h2]
    constructor
    · rintro ⟨j, hj, e⟩
      rw [← e, getElem!_pos ts.toArray j (by simpa using hj)]
      simp
    · intro hx
      obtain ⟨j, hj, e⟩ := List.getElem_of_mem hx
      exact ⟨j, hj, by rw [getElem!_pos ts.toArray j (by simpa using hj)]; simpa using e⟩
  refine ⟨fun x => ?_, ?_, ?_⟩
  · rw [List.mem_map, List.mem_map]
    constructor
    · rintro ⟨a, ha, rfl⟩
      rw [hmem, hm, hy, List.mem_filter] at ha
      exact ⟨⟨a, ha.1, rfl⟩, by simpa using ha.2⟩
    · rintro ⟨⟨a, ha, rfl⟩, hz⟩
      exact ⟨a, (hmem a).2 ((hm a).2 (by rw [hy, List.mem_filter]; exact ⟨ha, by simpa using hz⟩)), rfl⟩
  · rw [List.pairwise_map]
    exact h1
  · rw [List.length_map, List.filter_map, List.length_map]
    have : zs.filter ((fun x : ByteArray => decide (x.size ≠ 0)) ∘ fun x : Hd => x.1) = ys := by
      rw [hy]; congr 1; funext x; simp
    rw [this, ← hl]
    exact h3

set_option maxHeartbeats 2000000 in
set_option maxRecDepth 100000 in
theorem names_zs (ad : Addr) (c : Nat) (zs : List Hd) (m : Int) (w : World) (hr : Kd.C Kd.string w (some ad) zs.length (zs.map (·.1))) (hb : zs.length ≤ 1000000) (hT : Lib.Utf8Tabs 0 1 w) (hm : w.cell? ⟨2, 0, none⟩ = some (.int .i64 m)) :
    Calls Tryz.prog 12 #[.slice (some ad) zs.length c] w fun e w' => ∃ v n, e = .returned v ∧ Kd.string.R 9 w' w.heap.size (fun _ => True) v n ∧ NamesOf (zs.map (·.1)) n ∧ Below w.heap.size w w' := by
  have HCl := Aside0.mk (clones_any (some ad) c zs w ad rfl hr hb)
  have HDl := Aside0.mk (fun v W (ho : W.ownsRow w.heap.size 9 1 v zs.length (zs.map hdEnc)) (hv : v ≠ .slice none 0 0) => dels_any v zs W w.heap.size ho hv hb)
  have HSo := Aside0.mk (fun v (ys : List Hd) (hy : ys = zs.filter (fun x => !decide (x.1.size = 0))) W (ho : W.ownsRow w.heap.size 9 1 v ys.length (ys.map hdEnc)) (hv : v ≠ .slice none 0 0) (hbl : Below w.heap.size w W) => sorts_any v ys w W m ho hv (by rw [hy]; exact Nat.le_trans (List.length_filter_le _ _) hb) hT hm hbl)
  have HCo := Aside0.mk (fun v (ys ts : List Hd) (hy : ys = zs.filter (fun x => !decide (x.1.size = 0))) (hl : ts.length = ys.length) W (ho : W.ownsRow w.heap.size 9 1 v ts.length (ts.map hdEnc)) (hv : v ≠ .slice none 0 0) => compacts_any v ts W w.heap.size ho hv (by rw [hl, hy]; exact Nat.le_trans (List.length_filter_le _ _) hb))
  clear hr hT hm hb
  go_enter Tryz.func12, Tryz.ntmps12
  go_wp2_with (first
    | (go_at_call 17; refine HCl.out.mono ?_; rintro e w1 ⟨v1, rfl, ho1, hn1, hb1⟩; have HO1 := Aside0.mk ho1; have HN1 := Aside0.mk hn1; have HB1 := Aside0.mk hb1; clear ho1 hn1 hb1)
    | (go_at_call 16; go_loud (refine (HDl.out v1 w1 HO1.out HN1.out).mono ?_); rintro e w2 ⟨v2, ys, rfl, hy, ho2, hn2, hb2⟩; have HY := Aside0.mk hy; have HO2 := Aside0.mk ho2; have HN2 := Aside0.mk hn2; have HB2 := Aside0.mk (HB1.out.trans hb2); clear hy ho2 hn2 hb2)
    | (go_at_call 19; refine (HSo.out v2 ys HY.out w2 HO2.out HN2.out HB2.out).mono ?_; rintro e w3 ⟨ts, rfl, hl, hmm, hs, ho3, hb3⟩; have HL := Aside0.mk hl; have HM := Aside0.mk hmm; have HS := Aside0.mk hs; have HO3 := Aside0.mk ho3; have HB3 := Aside0.mk hb3; clear hl hmm hs ho3 hb3)
    | (go_at_call 21; refine (HCo.out v2 ys ts HY.out HL.out w3 HO3.out HN2.out).mono ?_; rintro e w4 ⟨v4, ns, rfl, hn, ho4, hb4⟩; have HNs := Aside0.mk hn; have HO4 := Aside0.mk ho4; have HB4 := Aside0.mk (HB3.out.trans hb4); clear hn ho4 hb4))
  go_ret
  refine ⟨v4, ns.map (·.1), rfl, Kd.R_of_own ?_ (fun _ _ => trivial), names_of HY.out HL.out HM.out HS.out HNs.out, HB4.out⟩
  have e : encs Value.string (ns.map (·.1)) = ns.map hdEnc := by unfold encs; rw [List.map_map]; rfl
  have := HO4.out
  rw [← e] at this
  simpa using this

/-! No slice at all. -/
theorem clone_nil (c : Nat) (w : World) : Calls Tryz.prog 17 #[.slice none 0 c] w fun e w' => e = .returned (.slice none 0 0) ∧ w' = w :=
  AnyE.slices_Clone_nil Tryz.laysCloneS 0 c w
theorem idxfn_nil (f : Value) (w : World) : Calls Tryz.prog 26 #[.slice none 0 0, f] w fun e w' => e = .returned (.int .i64 (-1)) ∧ w' = w := by
  go_enter Tryz.func26, Tryz.ntmps26
  go_wp2
  refine wp_loop_rounds 1 ?_
  rw [rounds_succ]
  go_wp2
  go_ret
  exact ⟨rfl, rfl⟩
theorem del_nil (f : Value) (w : World) : Calls Tryz.prog 16 #[.slice none 0 0, f] w fun e w' => e = .returned (.slice none 0 0) ∧ w' = w := by
  go_enter Tryz.func16, Tryz.ntmps16
  go_wp2_with (go_at_call 26; refine (idxfn_nil _ _).mono ?_; rintro e w' ⟨rfl, rfl⟩)
  go_ret
  exact ⟨rfl, rfl⟩
theorem sort_nil (f : Value) (w : World) : Calls Tryz.prog 19 #[.slice none 0 0, f] w fun e w' => e = .returned (.tuple #[]) ∧ w' = w :=
  AnyF.slices_SortFunc_none (P := Tryz.prog) (ρ := Tryz.laysSortS_ren) { Tryz.laysSortS with } none 0 f w
theorem compact_nil (w : World) : Calls Tryz.prog 21 #[.slice none 0 0] w fun e w' => e = .returned (.slice none 0 0) ∧ w' = w := by
  go_enter Tryz.func21, Tryz.ntmps21
  go_wp2
  go_ret
  exact ⟨rfl, rfl⟩
theorem names_nil (c : Nat) (w : World) : Calls Tryz.prog 12 #[.slice none 0 c] w fun e w' => e = .returned (.slice none 0 0) ∧ w' = w := by
  go_enter Tryz.func12, Tryz.ntmps12
  go_wp2_with (first
    | (go_at_call 17; refine (clone_nil _ _).mono ?_; rintro e w1 ⟨rfl, rfl⟩)
    | (go_at_call 16; refine (del_nil _ _).mono ?_; rintro e w1 ⟨rfl, rfl⟩)
    | (go_at_call 19; refine (sort_nil _ _).mono ?_; rintro e w1 ⟨rfl, rfl⟩)
    | (go_at_call 21; refine (compact_nil _).mono ?_; rintro e w1 ⟨rfl, rfl⟩))
  go_ret
  exact ⟨rfl, rfl⟩

theorem hd_list : ∀ (hs : List ByteArray), (∀ x ∈ hs, x.size ≤ 100) → ∃ zs : List Hd, zs.map (·.1) = hs
  | [], _ => ⟨[], rfl⟩
  | x :: r, h => by
    obtain ⟨zs, e⟩ := hd_list r (fun y hy => h y (List.mem_cons_of_mem _ hy))
    exact ⟨⟨x, h x (by simp)⟩ :: zs, by simp [e]⟩

/-- All names of some heads, in order. -/
theorem names_any (A : Option Addr) (c : Nat) (hs : List ByteArray) (m : Int) (w : World) (hr : Kd.C Kd.string w A hs.length hs) (hc : hs.length ≤ c) (hb : hs.length ≤ 1000000) (h100 : ∀ x ∈ hs, x.size ≤ 100) (hT : Lib.Utf8Tabs 0 1 w) (hm : w.cell? ⟨2, 0, none⟩ = some (.int .i64 m)) :
    Calls Tryz.prog 12 #[.slice A hs.length c] w fun e w' => ∃ v n, e = .returned v ∧ Kd.string.R 9 w' w.heap.size (fun _ => True) v n ∧ NamesOf hs n ∧ Below w.heap.size w w' := by
  cases A with
  | none =>
    have h0 : hs = [] := by
      rcases Nat.eq_zero_or_pos hs.length with h | h
      · exact List.eq_nil_of_length_eq_zero h
      · obtain ⟨ad, e, _⟩ := hr.2.2 h; cases e
    subst h0
    refine (names_nil c w).mono ?_
    rintro e w' ⟨rfl, rfl⟩
    exact ⟨_, [], rfl, Kd.R_nil _ _ _ _ _, ⟨fun x => by simp, List.Pairwise.nil, by simp⟩, Below.refl _ _⟩
  | some ad =>
    obtain ⟨zs, rfl⟩ := hd_list hs h100
    rw [List.length_map] at hr hb hc ⊢
    exact names_zs ad c zs m w hr hb hT hm
end Go.Proofs.YtmonfmmcgfmeeaaGreatDoor.Lf
