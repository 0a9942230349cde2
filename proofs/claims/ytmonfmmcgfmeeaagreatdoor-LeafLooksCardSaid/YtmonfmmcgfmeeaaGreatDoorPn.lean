/- leaf.Plan. -/
import Derived.Test.YtmonfmmcgfmeeaaGreatDoorDg
import Derived.Test.YtmonfmmcgfmeeaaGreatDoorKy
import Derived.WalkMore
import Derived.Carry
namespace Go.Proofs.YtmonfmmcgfmeeaaGreatDoor.Lf
open Go.RowKit Go.Shelf Go.Proofs.YtmonfmmcgfmeeaaGreatDoor.Pl Go.Proofs.YtmonfmmcgfmeeaaGreatDoorW.PrintWords Go.Proofs.YtmonfmmcgfmeeaaGreatDoor.Mp Go.ChangeMaps
set_option linter.unusedVariables false
set_option linter.unusedSimpArgs false

def toChg (x : S35) : Chg := ⟨x.f0, x.f1, x.f2⟩
theorem info9 : (Tryz.prog.info? 9).map (fun i => (i.zero, i.size, i.bytes)) = some (some (.string ⟨#[]⟩), 1, 16) := by kernel_rfl

theorem R_form {α : Type} {d : Kd α} {e : Nat} {w : World} {base : Nat} {ok : Nat → Prop} {v : Value} {xs : List α} (h : d.R e w base ok v xs) (hb : ∃ b, v.ownBlock = some b) : ∃ g cap, v = .slice (some ⟨g, 0, none⟩) xs.length cap := by
  obtain ⟨inner, ho⟩ := Kd.R_own h
  obtain ⟨b, hb⟩ := hb
  rcases ho.2 with ⟨rfl, _⟩ | ⟨g, cap, cur, rfl, _⟩
  · simp [Value.ownBlock] at hb
  · exact ⟨g, cap, rfl⟩

theorem plan_start {w W1 W2 : World} {g cap : Nat} {heads : List ByteArray} (hB : w.heap.size ≤ W1.heap.size) (hR1 : Kd.string.R 9 W1 w.heap.size (fun _ => True) (.slice (some ⟨g, 0, none⟩) heads.length cap) (List.replicate heads.length ⟨#[]⟩))
    (hR2 : Kd.string.R 9 W2 w.heap.size (fun _ => True) (.slice (some ⟨g, 0, none⟩) heads.length cap) (heads.take (min heads.length (List.replicate heads.length (⟨#[]⟩ : ByteArray)).length) ++ (List.replicate heads.length (⟨#[]⟩ : ByteArray)).drop (min heads.length (List.replicate heads.length (⟨#[]⟩ : ByteArray)).length)))
    (hg : ((W1.alloc (.map #[] 0)).alloc (.cells #[.slice (some ⟨g, 0, none⟩) heads.length cap, .map (some W1.heap.size)] 48)).grownBy W2 (some g)) :
    PlanAt W2 w.heap.size (W1.heap.size + 1) g W1.heap.size cap ⟨heads, []⟩ := by
  have e : heads.take (min heads.length (List.replicate heads.length (⟨#[]⟩ : ByteArray)).length) ++ (List.replicate heads.length (⟨#[]⟩ : ByteArray)).drop (min heads.length (List.replicate heads.length (⟨#[]⟩ : ByteArray)).length) = heads := by
    rw [List.length_replicate, Nat.min_self, List.take_length, List.drop_of_length_le (by simp), List.append_nil]
  rw [e] at hR2
  obtain ⟨inner, ho⟩ := Kd.R_own hR1
  have hgl : g < W1.heap.size := own_lt ho g rfl
  have hsz := hg.size
  have hsz' : W1.heap.size + 2 ≤ W2.heap.size := by simpa using hsz
  refine ⟨?_, hR2, ⟨#[], 0, ?_, ents_empty _ _⟩, ⟨by omega, hB⟩, ⟨by omega, by omega, by omega⟩⟩
  · rw [hg.block (W1.heap.size + 1) (by simp) (by intro e; injection e with e; omega)]
    simpa using blk_new (W1.alloc (.map #[] 0)) (Obj.cells #[.slice (some ⟨g, 0, none⟩) heads.length cap, .map (some W1.heap.size)] 48)
  · rw [hg.block W1.heap.size (by simp; omega) (by intro e; injection e with e; omega)]
    rw [Below.heap_alloc _ _ _ (by simp)]
    exact blk_new W1 _

/-! What Plan gives. -/
structure S33 where
  f0 : Int
  f1 : ByteArray
  f2 : List Int
  f3 : Bool
def z33 : S33 := ⟨0, ⟨#[]⟩, [], false⟩
def k33 : Kd S33 := Kd.iso (Kd.pair (Kd.int .i64) (Kd.pair Kd.string (Kd.pair (Kd.slice 5 (Kd.int .u8)) Kd.bool))) (fun x : S33 => (x.f0, x.f1, x.f2, x.f3))
theorem k33_open {w : World} {x : S33} {cs : List Value} (h : k33.K w x cs) : ∃ A2 c2, cs = [.int .i64 x.f0, .string x.f1, .slice A2 x.f2.length c2, .bool x.f3] ∧ x.f2.length ≤ c2 ∧ (Kd.int .u8).C w A2 x.f2.length x.f2 := by
  obtain ⟨_, _, rfl, rfl, ⟨_, _, rfl, rfl, ⟨_, _, rfl, ⟨A2, c2, rfl, l2, g2⟩, rfl⟩⟩⟩ := h
  exact ⟨A2, c2, rfl, l2, g2⟩
theorem k33_mkM (w : World) (base : Nat) (ok : Nat → Prop) (x : S33) {v2 : Value} (g2 : (Kd.int .u8).R 5 w base ok v2 x.f2) : k33.M w base ok x [.int .i64 x.f0, .string x.f1, v2, .bool x.f3] := ⟨[.int .i64 x.f0], [.string x.f1, v2, .bool x.f3], rfl, rfl, ⟨[.string x.f1], [v2, .bool x.f3], rfl, rfl, ⟨[v2], [.bool x.f3], rfl, ⟨v2, rfl, g2⟩, rfl⟩⟩⟩
def rd_T33 (xs : List S33) (i : Int) : S33 := xs.getD i.toNat z33
theorem at_T33 {w : World} {A : Option Addr} {n : Nat} {xs : List S33} (h : Kd.C k33 w A n xs) (i : Int) (h0 : 0 ≤ i) (h1 : i < n) : ∃ ad A2 c2, A = some ad ∧ w.cell? (ad.add (i.toNat * 4)) = some (.int .i64 (rd_T33 xs i).f0) ∧ w.cell? ⟨(ad.add (i.toNat * 4)).block, (ad.add (i.toNat * 4)).off + 1, none⟩ = some (.string (rd_T33 xs i).f1) ∧ w.cell? ⟨(ad.add (i.toNat * 4)).block, (ad.add (i.toNat * 4)).off + 2, none⟩ = some (.slice A2 (rd_T33 xs i).f2.length c2) ∧ w.cell? ⟨(ad.add (i.toNat * 4)).block, (ad.add (i.toNat * 4)).off + 3, none⟩ = some (.bool (rd_T33 xs i).f3) ∧ (rd_T33 xs i).f2.length ≤ c2 ∧ (Kd.int .u8).C w A2 (rd_T33 xs i).f2.length (rd_T33 xs i).f2 := by
  obtain ⟨ad, c, e, _, hK, hc0⟩ := Kd.C_get h z33 i h0 h1
  have hc : ∀ j u, c[j]? = some u → w.cell? (ad.add (i.toNat * 4 + j)) = some u := hc0
  obtain ⟨A2, c2, rfl, l2, g2⟩ := k33_open hK
  exact ⟨ad, A2, c2, e, hc 0 _ rfl, by rw [← add_field _ _ 1 (by omega)]; exact hc 1 _ rfl, by rw [← add_field _ _ 2 (by omega)]; exact hc 2 _ rfl, by rw [← add_field _ _ 3 (by omega)]; exact hc 3 _ rfl, l2, g2⟩
theorem info33 : (Tryz.prog.info? 39).map (fun i => (i.zero, i.size, i.bytes)) = some (some (.agg #[.int .i64 0, .string ⟨#[]⟩, .slice none 0 0, .bool false]), 4, 56) := by kernel_rfl

def slotsOf (last : List (Nat × Chg)) : List Int := (keysZ last).mergeSort (fun x y => decide (x ≤ y))
def outAt (last : List (Nat × Chg)) (z : Int) : S33 := match getK z.toNat last with
  | some c => ⟨z, headOf c, valOf c, c.gone⟩
  | none => z33
def outOf (last : List (Nat × Chg)) : List S33 := (slotsOf last).map (outAt last)
theorem slots_length (last : List (Nat × Chg)) : (slotsOf last).length = last.length := by simp [slotsOf, keysZ]
theorem slots_mem {last : List (Nat × Chg)} {z : Int} (h : z ∈ slotsOf last) : ∃ k c, (k, c) ∈ last ∧ z = (k : Int) := by
  unfold slotsOf at h
  rw [List.mem_mergeSort] at h
  obtain ⟨p, hp, rfl⟩ := List.mem_map.1 h
  exact ⟨p.1, p.2, hp, rfl⟩
theorem nodup_le : ∀ (n : Nat) (l : List Nat), l.Nodup → (∀ k ∈ l, k < n) → l.length ≤ n
  | 0, l, _, h => by
    cases l with
    | nil => simp
    | cons a r => exact absurd (h a (by simp)) (by omega)
  | n + 1, l, hn, h => by
    have h1 := nodup_le n (l.erase n) (hn.erase n) (fun k hk => by
      have h2 := h k (List.mem_of_mem_erase hk)
      have h3 : k ≠ n := fun e => by subst e; exact (List.Nodup.not_mem_erase hn) hk
      omega)
    have h4 : l.length ≤ (l.erase n).length + 1 := by
      rw [List.length_erase]
      split <;> omega
    omega
theorem right_size {s : ByteArray} (h : Nm.rightB s = true) : s.size ≠ 0 := by
  intro h0
  have := size0 h0
  subst this
  revert h
  unfold Nm.rightB
  rw [Nm.pieces_miss (by rfl)]
  have h1 : Nm.runesOf (⟨#[]⟩ : ByteArray) = [] := by rfl
  simp [Nm.partB, h1]
theorem run_slots {heads : List ByteArray} {l : List Chg} {s : St} (h : runI Nm.rightB ⟨heads, []⟩ l = .ok s) : Inv Nm.rightB heads s := inv_run (fun _ h => right_size h) l _ _ (inv_start _ _) h

theorem row_map {α : Type} {d : Kd α} {e : Nat} {w : World} {base mb cl : Nat} {es : Array MapEntry} {ok : Nat → Prop} {v : Value} {xs : List α} (h : d.R e w base ok v xs) (hm : w.heap[mb]? = some (.map es cl)) : some mb ≠ v.ownBlock := by
  intro he
  obtain ⟨inner, ho⟩ := Kd.R_own h
  obtain ⟨cells, hc⟩ := own_typed ho mb he.symm
  rw [hm] at hc
  cases hc
theorem PlanAt.row {α : Type} {d : Kd α} {w w1 : World} {base pb g mb cap base' : Nat} {s : St} {ok : Nat → Prop} {v : Value} {xs : List α} (h : PlanAt w base pb g mb cap s) (hv : d.R 39 w base' ok v xs) (hg : w.grownBy w1 v.ownBlock) : PlanAt w1 base pb g mb cap s := by
  obtain ⟨es, clock, hm, hE⟩ := h.map
  refine ⟨blk_grown h.pb_ hg (Kd.R_ne hv h.pb_ (by decide)), ?_, ⟨es, clock, blk_grown hm hg (row_map hv hm), hE.imp (fun k c u hu => ?_)⟩, h.lo, ⟨Nat.lt_of_lt_of_le h.hi.1 hg.size, Nat.lt_of_lt_of_le h.hi.2.1 hg.size, Nat.lt_of_lt_of_le h.hi.2.2 hg.size⟩⟩
  · exact Kd.R_mono (Kd.R_grown (Kd.R_apartR h.now hv (by intro q hq; simp [Kd.string, Kd.scalar] at hq; omega)) hg (fun k hk => hk.2)) (fun _ hk => hk.1)
  · obtain ⟨sv, e, hr⟩ := hu
    exact ⟨sv, e, Kd.R_mono (Kd.R_grown (Kd.R_apartR hr hv (by intro q hq; simp [Kd.int, Kd.scalar] at hq; omega)) hg (fun k hk => hk.2)) (fun _ hk => hk.1)⟩
theorem ints_row {α : Type} {d : Kd α} {w w1 : World} {base base' : Nat} {ok ok' : Nat → Prop} {v u : Value} {xs : List α} {ys : List Int} (h : (Kd.int .i64).R 3 w base ok u ys) (hv : d.R 39 w base' ok' v xs) (hg : w.grownBy w1 v.ownBlock) : (Kd.int .i64).R 3 w1 base ok u ys :=
  Kd.R_mono (Kd.R_grown (Kd.R_apartR h hv (by intro q hq; simp [Kd.int, Kd.scalar] at hq; omega)) hg (fun k hk => hk.2)) (fun _ hk => hk.1)
theorem out_snoc (last : List (Nat × Chg)) (i : Nat) (h : i < (slotsOf last).length) : (outOf last).take (i + 1) = (outOf last).take i ++ [outAt last ((slotsOf last)[i])] := by
  have h' : i < (outOf last).length := by rw [outOf, List.length_map]; exact h
  rw [List.take_succ_eq_append_getElem h']
  simp [outOf]

theorem do_good (s : St) (c : Chg) (w : World) (base pb g mb cap : Nat) (VA : Option Addr) (vc : Nat) (hP : PlanAt w base pb g mb cap s) (hV : (Kd.int .u8).C w VA c.val.length c.val) (hvc : c.val.length ≤ vc)
    (hs : c.name.size ≤ 140737488351232) (hT : Lib.Utf8Tabs 0 1 w) (k : Nat) (h : ByteArray) (he : stepI Nm.rightB s.now c = .ok (k, h)) :
    Calls Tryz.prog 23 #[.pointer (some ⟨pb, 0, none⟩), .agg #[.string c.name, .slice VA c.val.length vc, .bool c.gone]] w fun e w' => e = .returned (.int .i64 0) ∧ Fr w w' g mb ∧ PlanAt w' base pb g mb cap ⟨s.now.set k h, putK k c s.last⟩ := by
  obtain ⟨hr, rfl, hlt, hw⟩ := stepI_ok he
  cases hg : c.gone with
  | true =>
    have hfi : findI s.now c.name = some k := by
      rcases hw with hw | ⟨_, hq, _⟩
      · exact hw
      · rw [hg] at hq; cases hq
    have := do_gone s c w base pb g mb cap VA vc hP hvc hs hT hg k hr hfi
    rw [hg] at this
    simpa [headOf, hg] using this
  | false =>
    have h350 : c.val.length ≤ 350 := by
      unfold stepI at he
      split at he
      · cases he
      · rename_i hn
        rcases Nat.lt_or_ge 350 c.val.length with h | h
        · exact absurd (.inr ⟨hg, h⟩) hn
        · exact h
    have := do_put s c w base pb g mb cap VA vc hP hV hvc hs hT hg h350 k hr hlt (by
      rcases hw with hw | ⟨h1, _, h2⟩
      · exact .inl hw
      · exact .inr ⟨h1, h2⟩)
    rw [hg] at this
    simpa [headOf, hg] using this
theorem runI_snoc (right : ByteArray → Bool) (c : Chg) : ∀ (a : List Chg) (s : St), runI right s (a ++ [c]) = match runI right s a with
    | .error f => .error f
    | .ok t => match stepI right t.now c with
      | .error f => .error f
      | .ok (k, h) => .ok ⟨t.now.set k h, putK k c t.last⟩
  | [], s => by
    simp only [List.nil_append, runI]
    cases stepI right s.now c <;> rfl
  | d :: r, s => by
    simp only [List.cons_append, runI]
    cases stepI right s.now d with
    | error f => rfl
    | ok p => exact runI_snoc right c r _
theorem runI_take (right : ByteArray → Bool) (s : St) (l : List Chg) (i : Nat) (f : Int) (h : runI right s (l.take i) = .error f) : runI right s l = .error f := by
  have e : l = l.take i ++ l.drop i := (List.take_append_drop i l).symm
  rw [e]
  generalize l.take i = a at h
  generalize l.drop i = b
  clear e
  induction a generalizing s with
  | nil => simp [runI] at h
  | cons d r ih =>
    simp only [runI, List.cons_append] at h ⊢
    cases hs : stepI right s.now d with
    | error q => rw [hs] at h; exact h
    | ok p => rw [hs] at h; exact ih _ h
theorem step_error {right : ByteArray → Bool} {now : List ByteArray} {c : Chg} {f : Int} (h : stepI right now c = .error f) : f = 2 ∨ f = 5 ∨ f = 7 := by
  unfold stepI at h
  split at h
  · injection h with h; omega
  · split at h
    · cases h
    · split at h
      · injection h with h; omega
      · split at h
        · cases h
        · injection h with h; omega

set_option maxHeartbeats 4000000 in
set_option maxRecDepth 100000 in
theorem plan_any (A0 : Option Addr) (c0 : Nat) (heads : List ByteArray) (A1 : Option Addr) (c1 : Nat) (l : List S35) (w : World)
    (hr0 : Kd.C Kd.string w A0 heads.length heads) (hc0 : heads.length ≤ c0) (hr1 : Kd.C k35 w A1 l.length l) (hc1 : l.length ≤ c1) (hn : heads.length ≤ 1000000) (hsz : ∀ x ∈ l, x.f0.size ≤ 140737488351232) (hT : Lib.Utf8Tabs 0 1 w) :
    Calls Tryz.prog 14 #[.slice A0 heads.length c0, .slice A1 l.length c1] w fun e w' => match runI Nm.rightB ⟨heads, []⟩ (l.map toChg) with
      | .error f => e = .returned (.tuple #[.slice none 0 0, .int .i64 f]) ∧ Below w.heap.size w w'
      | .ok s => ∃ v, e = .returned (.tuple #[v, .int .i64 0]) ∧ k33.R 39 w' w.heap.size (fun _ => True) v (outOf s.last) ∧ Below w.heap.size w w' := by
  have HR0 := Aside0.mk hr0
  have HR1 := Aside0.mk hr1
  have hr1l := hr1.2.1
  clear hr0 hr1
  have HT := Aside0.mk hT
  clear hT
  have HN := Aside0.mk hn
  obtain ⟨Rn, hRn⟩ : ∃ Rn, Rn = runI Nm.rightB ⟨heads, []⟩ (l.map toChg) := ⟨_, rfl⟩
  rw [← hRn]
  have HRN := Aside0.mk hRn
  clear hRn
  have HSZ := Aside0.mk hsz
  clear hsz
  clear hn
  go_enter Tryz.func14, Tryz.ntmps14
  go_wp2
  go_step3
  have hMk : ∀ W : World, (Instr.makeMap 46 none).run Tryz.prog W = .ok (.map (some W.heap.size)) (W.alloc (.map #[] 0)) := fun W => run_makeMap _ W
  go_wp2_with (first
    | ((with_reducible refine gate_dst (N := 14) rfl ?_); refine Kd.R_make Kd.string w.heap.size 9 rfl rfl 22 _ _ rfl (heads.length : Int) rfl rfl Tryz.underlying22 (.string ⟨#[]⟩) 16 info9 rfl (by decide) (by decide) ⟨#[]⟩ (ok := fun _ => True) (okp := fun _ => True) rfl (fun _ h => h) trivial (by omega) (by have := HN.out; omega) (Below.refl _ _) (Nat.le_refl _) ?_; intro v1 W1 hR1 hB1 hg1 hv1; obtain ⟨g, cap, hf⟩ := R_form hR1 (by obtain ⟨b, hb, _⟩ := hv1; exact ⟨b, hb⟩); rw [Int.toNat_natCast] at hR1 hf; rw [List.length_replicate] at hf; subst hf; have HR := Aside0.mk hR1; have HB1 := Aside0.mk hB1; clear hR1 hB1 hg1 hv1)
    | ((with_reducible refine gate_dst (N := 23) rfl ?_); go_loud (refine Kd.R_copy (d := ByteArray.empty) w.heap.size rfl _ _ 22 22 9 rfl Tryz.underlying22 (by kernel_rfl) _ (List.replicate heads.length ⟨#[]⟩) heads A0 heads.length c0 (fun _ => True) rfl rfl (Kd.R_alloc (Kd.R_alloc HR.out _) _) (Kd.C_below HR0.out (below_alloc (below_alloc HB1.out _) _)) (below_alloc (below_alloc HB1.out _) _) (by have := HB1.out.size; simp; omega) ?_); intro W2 hR2 hB2 hg2; have HP := Aside0.mk (plan_start HB1.out.size HR.out hR2 hg2); have HB2 := Aside0.mk hB2; clear hR2 hB2 hg2))
  generalize hmb : W1.heap.size = mb at *
  generalize hpb : mb + 1 = pb at *
  have HL := Aside0.mk hr1l
  go_step3
  go_upto_block 0 with (fail)
  go_cut [5] (fun v5 wc => ∃ f : Int, v5 = .int .i64 f ∧ Aside0 (Below w.heap.size w wc) ∧ Aside0 ((f ≠ 0 ∧ runI Nm.rightB ⟨heads, []⟩ (l.map toChg) = .error f) ∨ (f = 0 ∧ ∃ s, runI Nm.rightB ⟨heads, []⟩ (l.map toChg) = .ok s ∧ PlanAt wc w.heap.size pb g mb cap s)))
  case first =>
    go_wp2
    go_loopw [5, 28] (fun v5 v28 wr => ∃ i : Nat, i ≤ l.length ∧ v5 = .int .i64 0 ∧ v28 = .int .i64 i ∧ ∃ s, Aside0 (runI Nm.rightB ⟨heads, []⟩ ((l.take i).map toChg) = .ok s) ∧ Aside0 (PlanAt wr w.heap.size pb g mb cap s) ∧ Aside0 (Below w.heap.size w wr)) (fun _ v28 _ => l.length - (intOf v28).toNat)
    case atStart => exact ⟨0, Nat.zero_le _, rfl, rfl, ⟨heads, []⟩, ⟨rfl⟩, HP, HB2⟩
    case round =>
      obtain ⟨i, hi, rfl, rfl, s, HRun, HPs, HB⟩ := hrel
      by_cases hlt : i < l.length
      · obtain ⟨ad, VA, vc, eA, x0, x1, x2, lV, gV⟩ := at_T35 (Kd.C_below HR1.out HB.out) (i : Int) (by omega) (by omega)
        have hxm : rd_T35 l (i : Int) ∈ l := by
          rw [rd_T35, Int.toNat_natCast, List.getD_eq_getElem?_getD, List.getElem?_eq_getElem hlt]
          exact List.getElem_mem hlt
        have htk : (l.take (i + 1)).map toChg = (l.take i).map toChg ++ [toChg (rd_T35 l (i : Int))] := by
          rw [List.take_succ_eq_append_getElem hlt, List.map_append, rd_T35, Int.toNat_natCast, List.getD_eq_getElem?_getD, List.getElem?_eq_getElem hlt]
          rfl
        have hs := HSZ.out _ hxm
        subst eA
        generalize rd_T35 l (i : Int) = x at *
        have hBadB := fun f (he : stepI Nm.rightB s.now (toChg x) = .error f) => Aside0.mk (fun V (hV : Below wr.heap.size wr V) => do_bad s (toChg x) V w.heap.size pb g mb cap VA vc (HPs.out.below hV) (Kd.C_below gV hV) lV hs (Utf8Tabs_below HT.out (below_step HB.out hV)) f he)
        have hGood := Aside0.mk (fun k h (he : stepI Nm.rightB s.now (toChg x) = .ok (k, h)) => fun V (hV : Below wr.heap.size wr V) => do_good s (toChg x) V w.heap.size pb g mb cap VA vc (HPs.out.below hV) (Kd.C_below gV hV) lV hs (Utf8Tabs_below HT.out (below_step HB.out hV)) k h he)
        have HTK := Aside0.mk htk
        rw [Int.toNat_natCast] at x0 x1 x2
        clear htk hxm gV
        cases hst : stepI Nm.rightB s.now (toChg x) with
        | error f =>
          have HBad := hBadB f hst
          clear hBadB hGood
          have HST := Aside0.mk hst
          clear hst
          have hf0 : ¬ f = 0 := by rcases step_error HST.out with h | h | h <;> omega
          go_wp2_with (first | (go_at_call 23; refine (HBad.out _ (below_alloc (Below.refl _ _) _)).mono ?_; rintro e V ⟨rfl, hbV⟩; have HBV := Aside0.mk (below_step HB.out (below_step (below_alloc (Below.refl _ _) _) hbV)); clear hbV))
          go_meet
          case rel => exact ⟨f, rfl, HBV, ⟨.inl ⟨hf0, by
            have h1 := HRun.out
            have h2 := runI_snoc Nm.rightB (toChg x) ((l.take i).map toChg) ⟨heads, []⟩
            rw [h1] at h2
            simp only [HST.out] at h2
            rw [← HTK.out, List.map_take] at h2
            exact runI_take _ _ _ _ _ h2⟩⟩⟩
        | ok p =>
          obtain ⟨k, h⟩ := p
          have HGood := Aside0.mk (hGood.out k h hst)
          clear hBadB hGood
          have HST := Aside0.mk hst
          clear hst
          have hi1 : IntKind.i64.wrap ((i : Int) + 1) = (i : Int) + 1 := IntWalk.i64_in _ (by omega)
          go_wp2_with (first | (go_at_call 23; refine (HGood.out _ (below_alloc (Below.refl _ _) _)).mono ?_; rintro e V ⟨rfl, hFr, hPV⟩; have HBV := Aside0.mk (hFr.below (below_step HB.out (below_alloc (Below.refl _ _) _)) (g_ne HPs.out).2.2.2 HPs.out.lo.2); have HPV := Aside0.mk hPV; clear hFr hPV))
          go_roundw
          case rel => exact ⟨i + 1, by omega, rfl, by push_cast; rfl, _, ⟨by
            have h1 := HRun.out
            have h2 := runI_snoc Nm.rightB (toChg x) ((l.take i).map toChg) ⟨heads, []⟩
            rw [h1] at h2
            simp only [HST.out] at h2
            rw [HTK.out]
            exact h2⟩, HPV, HBV⟩
          case measure => simp [intOf]; omega
      · obtain rfl : i = l.length := by omega
        go_wp2
        go_meet
        case rel => exact ⟨0, rfl, HB, ⟨.inr ⟨rfl, s, by have := HRun.out; rwa [List.take_length] at this, HPs.out⟩⟩⟩
  case rest =>
    obtain ⟨f, rfl, HB, HC⟩ := hcut
    by_cases hf : f = 0
    · subst hf
      obtain ⟨s, hrun, hPs⟩ : ∃ s, runI Nm.rightB ⟨heads, []⟩ (l.map toChg) = .ok s ∧ PlanAt wc w.heap.size pb g mb cap s := by
        rcases HC.out with ⟨h, _⟩ | ⟨_, h⟩
        · exact absurd rfl h
        · exact h
      have hRn := HRN.out
      rw [hrun] at hRn
      clear HRN
      subst hRn
      have hInv := run_slots hrun
      have hsl : s.last.length ≤ heads.length := by
        have := nodup_le heads.length (s.last.map (·.1)) hInv.nodup hInv.lt
        rwa [List.length_map] at this
      have p1 := ((blk_cell hPs.pb_ 1).trans rfl : wc.cell? ⟨pb, 1, none⟩ = some (.map (some mb)))
      obtain ⟨es, clock, hm, hE⟩ := hPs.map
      have HSl := Aside0.mk hsl
      have HE := Aside0.mk hE
      have HM := Aside0.mk hm
      have HPs := Aside0.mk hPs
      have HK := Aside0.mk (fun q hq => (Nat.lt_of_lt_of_le (hInv.lt q hq) (by have := HN.out; omega) : q < 9223372036854775807))
      clear HC hrun hInv hsl hE hm hPs HP HR HB1 HB2 hmb hpb hMk
      have HSort := Aside0.mk (sorted_any HE.out HK.out (by have := HSl.out; have := HN.out; omega) (wc.alloc (.cells #[.map (some mb)] 46)) wc.heap.size mb (by rw [Below.heap_alloc _ _ _ HPs.out.hi.2.1]; exact HM.out) (by simp) ((blk_cell (blk_new wc _) 0).trans rfl))
      go_wp2_with (first
        | (go_at_call 25; refine (keys_any (some mb) wc).mono ?_; rintro e w' ⟨rfl, rfl⟩)
        | (go_at_call 24; refine HSort.out.mono ?_; rintro e w3 ⟨sv, rfl, hRs, hb3⟩; obtain ⟨SA, sc, hsv⟩ := Kd.R_slice hRs; subst hsv; have HRs := Aside0.mk hRs; have HB3 := Aside0.mk (below_step (below_alloc (Below.refl wc.heap.size wc) (.cells #[.map (some mb)] 46)) hb3); clear hRs hb3))
      have hlen : (keysZ s.last).length = (slotsOf s.last).length := by simp [slotsOf]
      have HLN := Aside0.mk hlen
      clear hlen
      have hn6 : (keysZ s.last).length ≤ 1000000 := by have := HSl.out; have := HN.out; simp [keysZ]; omega
      go_loopw [4, 48] (fun v4 v48 wr => ∃ i : Nat, i ≤ (keysZ s.last).length ∧ v48 = .int .i64 i ∧ Aside0 (k33.R 39 wr w.heap.size (fun _ => True) v4 ((outOf s.last).take i)) ∧ Aside0 (PlanAt wr w.heap.size pb g mb cap s) ∧ Aside0 ((Kd.int .i64).R 3 wr w.heap.size (fun _ => True) (.slice SA (keysZ s.last).length sc) (slotsOf s.last)) ∧ Aside0 (Below w.heap.size w wr)) (fun _ v48 _ => (keysZ s.last).length - (intOf v48).toNat)
      case atStart => exact ⟨0, Nat.zero_le _, rfl, ⟨Kd.R_nil _ _ _ _ _⟩, ⟨HPs.out.below HB3.out⟩, ⟨by have := HRs.out; rw [List.length_mergeSort] at this; exact Kd.R_lower this (by have := HB.out.size; simp; omega)⟩, ⟨below_step HB.out HB3.out⟩⟩
      case round =>
        obtain ⟨i, hi, rfl, HO, HPr, HI, HBr⟩ := hrel
        by_cases hlt : i < (keysZ s.last).length
        · have hlt' : i < (slotsOf s.last).length := by rw [← HLN.out]; exact hlt
          obtain ⟨ad, eA, x0⟩ := ReadsOf.at_ (Kd.reads_of_C (d := (0 : Int)) (Kd.R_reads' HI.out).2.2) (i : Int) (by omega) (by omega)
          obtain ⟨k, c, hkc, hz⟩ := slots_mem (List.getElem_mem hlt')
          have hrd : rdOf (0 : Int) (slotsOf s.last) (i : Int) = (k : Int) := by
            rw [rdOf, Int.toNat_natCast, List.getD_eq_getElem?_getD, List.getElem?_eq_getElem hlt']
            exact hz
          rw [hrd, Int.toNat_natCast] at x0
          obtain ⟨es', clock', hm', hE'⟩ := HPr.out.map
          obtain ⟨lv, hlk, sv, hlv, hsv5⟩ := run_lookup_at Tryz.underlying46 Tryz.underlying3 hm' hE' hkc
          obtain ⟨SVA, svc, hsv⟩ := Kd.R_slice hsv5
          subst hsv
          subst hlv
          have hout : outAt s.last ((slotsOf s.last)[i]) = ⟨(k : Int), headOf c, valOf c, c.gone⟩ := by
            obtain ⟨q, hq⟩ := List.getElem?_of_mem hkc
            rw [hz, outAt, Int.toNat_natCast, getK_at hE'.keys hq]
          have hsn := out_snoc s.last i hlt'
          rw [hout] at hsn
          have p1 := ((blk_cell HPr.out.pb_ 1).trans rfl : wr.cell? ⟨pb, 1, none⟩ = some (.map (some mb)))
          have HSN := Aside0.mk hsn
          have HS5 := Aside0.mk hsv5
          subst eA
          clear hsn hsv5 hE' hm' hrd hz hout hkc
          generalize hdo : headOf c = hd at *
          generalize hvo : valOf c = vl at *
          generalize hgo : c.gone = gn at *
          have hi1 : IntKind.i64.wrap ((i : Int) + 1) = (i : Int) + 1 := IntWalk.i64_in _ (by omega)
          go_wp2_with (first | ((with_reducible refine gate_builtin (b := .append) (xs := #[.tmp 52, .tmp 59]) rfl ?_); at_builtin; go_loud (refine Kd.R_append k33 (w0 := w) w.heap.size rfl (.tmp 52) (.tmp 59) 34 39 (.agg #[.int .i64 0, .string ⟨#[]⟩, .slice none 0 0, .bool false]) 56 rfl Tryz.underlying34 info33 rfl (by decide) (by omega) u4 ((outOf s.last).take i) ⟨(k : Int), hd, vl, gn⟩ [.int .i64 (k : Int), .string hd, .slice SVA vl.length svc, .bool gn] (fun _ => True) (fun q => True ∧ w.heap.size ≤ q ∧ q < wr.heap.size ∧ ∃ u, u ∈ 5 :: (Kd.int .u8).E ∧ ∃ cells, wr.heap[q]? = some (.cells cells u (0, 0))) rfl rfl ?aP ?aK ?aF ?aO ?aB ?aS ?aL ?_); (case aP => exact k33_mkM wr w.heap.size _ ⟨(k : Int), hd, vl, gn⟩ (Kd.R_bound HS5.out)); (case aK => rintro q ⟨_, _, _, u, hu, cells, hc⟩; exact ⟨trivial, Kd.R_ne HO.out hc (by simp [Kd.int, Kd.scalar] at hu; omega)⟩); (case aF => exact fun _ _ => trivial); (case aO => exact HO.out); (case aB => exact HBr.out); (case aS => exact HBr.out.size); (case aL => rw [List.length_take]; omega); intro v1 w1 hR1 hB1 hg1 _; have HO2 := Aside0.mk hR1; have HB4 := Aside0.mk hB1; have HP4 := Aside0.mk (HPr.out.row HO.out hg1); have HI4 := Aside0.mk (ints_row HI.out HO.out hg1); clear hR1 hB1 hg1))
          go_roundw
          case rel => exact ⟨i + 1, by omega, by push_cast; rfl, ⟨by rw [HSN.out]; exact HO2.out⟩, HP4, HI4, HB4⟩
          case measure => simp [intOf]; omega
        · obtain rfl : i = (keysZ s.last).length := by omega
          go_wp2
          rw [Exit.noGoto_ret]
          go_ret2
          exact ⟨_, rfl, by have := HO.out; rwa [List.take_of_length_le (by rw [outOf, List.length_map, HLN.out]; exact Nat.le_refl _)] at this, HBr.out⟩
    · have hrun : runI Nm.rightB ⟨heads, []⟩ (l.map toChg) = .error f := by
        rcases HC.out with ⟨_, h⟩ | ⟨h, _⟩
        · exact h
        · exact absurd h hf
      have hRn := HRN.out
      rw [hrun] at hRn
      clear HRN
      subst hRn
      clear HC hrun
      go_wp2
      rw [Exit.noGoto_ret]
      go_ret2
      exact ⟨rfl, HB.out⟩
end Go.Proofs.YtmonfmmcgfmeeaaGreatDoor.Lf
