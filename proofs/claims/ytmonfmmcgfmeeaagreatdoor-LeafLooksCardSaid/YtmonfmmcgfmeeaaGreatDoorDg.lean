/- One change of a plan that is done: (*plan).do. -/
import Derived.Test.YtmonfmmcgfmeeaaGreatDoorDo
import Derived.Test.YtmonfmmcgfmeeaaGreatDoorCl
namespace Go.Proofs.YtmonfmmcgfmeeaaGreatDoor.Lf
open Go.RowKit Go.Shelf Go.Proofs.YtmonfmmcgfmeeaaGreatDoor.Pl Go.Proofs.YtmonfmmcgfmeeaaGreatDoorW.PrintWords Go.Proofs.YtmonfmmcgfmeeaaGreatDoor.Mp Go.ChangeMaps
set_option linter.unusedVariables false
set_option linter.unusedSimpArgs false

theorem setBlock_at {w : World} {b : Nat} {o o' : Obj} (h : w.heap[b]? = some o) : (setBlock w b o').heap[b]? = some o' := (MapKept.heap_set h).1
theorem setBlock_far' {w : World} {b k : Nat} {o o' : Obj} (h : w.heap[b]? = some o) (hk : k ≠ b) : (setBlock w b o').heap[k]? = w.heap[k]? := (MapKept.heap_set h).2 k hk
theorem cell_setBlock {w : World} {b : Nat} {o o' : Obj} (h : w.heap[b]? = some o) {a : Addr} (hne : a.block ≠ b) : (setBlock w b o').cell? a = w.cell? a := by
  unfold World.cell?
  rw [setBlock_far' h hne]
theorem g_cells {w : World} {base pb g mb cap : Nat} {s : St} (h : PlanAt w base pb g mb cap s) : ∃ cells : Array Value, w.heap[g]? = some (.cells cells 9 (0, 0)) := by
  obtain ⟨inner, ho⟩ := Kd.R_own h.now
  exact own_typed ho g rfl
theorem g_ne {w : World} {base pb g mb cap : Nat} {s : St} (h : PlanAt w base pb g mb cap s) : pb ≠ g ∧ mb ≠ g ∧ pb ≠ mb ∧ base ≤ g := by
  obtain ⟨cells, hc⟩ := g_cells h
  obtain ⟨es, clock, hm, _⟩ := h.map
  have hp := h.pb_
  refine ⟨?_, ?_, ?_, ?_⟩
  · rintro rfl
    rw [hp] at hc
    injection hc with hc
    injection hc with _ hc
    exact absurd hc (by decide)
  · rintro rfl
    rw [hm] at hc
    cases hc
  · rintro rfl
    rw [hm] at hp
    cases hp
  · obtain ⟨inner, ho⟩ := Kd.R_own h.now
    exact own_base ho g rfl
theorem R_map {α : Type} {d : Kd α} {e : Nat} {w w1 : World} {base mb cl : Nat} {es : Array MapEntry} {ok : Nat → Prop} {v : Value} {xs : List α} (h : d.R e w base ok v xs) (hm : w.heap[mb]? = some (.map es cl)) (hk : ∀ j, j < w.heap.size → j ≠ mb → w1.heap[j]? = w.heap[j]?) : d.R e w1 base ok v xs :=
  Kd.R_mono (Kd.R_move (Kd.R_bound h) (fun j hj => hk j hj.2.2.1 (by
    obtain ⟨_, _, _, q, _, cells, hc⟩ := hj
    rintro rfl
    rw [hm] at hc
    cases hc))) (fun _ hk => hk.1)
theorem R_fr {α : Type} {d : Kd α} {e : Nat} {w w1 : World} {base g mb cl : Nat} {cells : Array Value} {es : Array MapEntry} {ok : Nat → Prop} {v : Value} {xs : List α} (h : d.R e w base ok v xs) (hg : w.heap[g]? = some (.cells cells 9 (0, 0))) (ht : ∀ q, q ∈ e :: d.E → q ≠ 9) (hm : w.heap[mb]? = some (.map es cl)) (hk : ∀ j, j < w.heap.size → j ≠ g → j ≠ mb → w1.heap[j]? = w.heap[j]?) : d.R e w1 base ok v xs :=
  Kd.R_mono (Kd.R_move (Kd.R_bound (Kd.R_types h hg ht)) (fun j hj => hk j hj.2.2.1 hj.1.2 (by
    obtain ⟨_, _, _, q, _, cells, hc⟩ := hj
    rintro rfl
    rw [hm] at hc
    cases hc))) (fun _ hk => hk.1.1)
theorem EntRel.fr {w w1 : World} {base pb g mb cap k : Nat} {s : St} {c : Chg} {v : Value} (h : EntRel w base k c v) (hP : PlanAt w base pb g mb cap s) (hk : ∀ j, j < w.heap.size → j ≠ g → j ≠ mb → w1.heap[j]? = w.heap[j]?) : EntRel w1 base k c v := by
  obtain ⟨sv, e, hr⟩ := h
  obtain ⟨cells, hg⟩ := g_cells hP
  obtain ⟨es, cl, hm, _⟩ := hP.map
  exact ⟨sv, e, R_fr hr hg (by intro q hq; simp [Kd.int, Kd.scalar] at hq; omega) hm hk⟩
theorem put_frame {U : World} {base pb g mb cap : Nat} {s : St} (hP : PlanAt U base pb g mb cap s) (k : Nat) (h : ByteArray) (es1 es2 : Array MapEntry) (clock1 clock2 : Nat) :
    Fr U (setBlock (setBlock (U.setCell ⟨g, k, none⟩ (.string h)) mb (.map es1 clock1)) mb (.map es2 clock2)) g mb := by
  obtain ⟨n1, n2, n3, n4⟩ := g_ne hP
  obtain ⟨es, cl, hm, _⟩ := hP.map
  have hm1 : (U.setCell ⟨g, k, none⟩ (.string h)).heap[mb]? = some (.map es cl) := (Below.heap_setCell U ⟨g, k, none⟩ _ mb n2).trans hm
  have hm2 := (MapKept.heap_set (o' := .map es1 clock1) hm1).1
  refine ⟨rfl, rfl, rfl, by simp [setBlock, World.setCell, World.drew], fun j hj h1 h2 => ?_⟩
  rw [setBlock_far' hm2 h2, setBlock_far' hm1 h2]
  exact Below.heap_setCell U ⟨g, k, none⟩ _ j h1
theorem put_done {w U : World} {base pb g mb cap : Nat} {s : St} (hP : PlanAt U base pb g mb cap s) (hB : Below w.heap.size w U) (k : Nat) (hk : k < s.now.length) (h : ByteArray) (c : Chg) {es es1 es2 : Array MapEntry} {clock clock1 clock2 : Nat} {val : Value}
    (hm : U.heap[mb]? = some (.map es clock)) (hE : Ents (EntRel U base) es clock s.last)
    (hnext : ∀ (R' : Nat → Chg → Value → Prop) (c : Chg), Ents R' es clock s.last → R' k c val → Ents R' es2 clock2 (putK k c s.last)) (hval : EntRel U base k c val) :
    Fr w (setBlock (setBlock (U.setCell ⟨g, k, none⟩ (.string h)) mb (.map es1 clock1)) mb (.map es2 clock2)) g mb ∧
      PlanAt (setBlock (setBlock (U.setCell ⟨g, k, none⟩ (.string h)) mb (.map es1 clock1)) mb (.map es2 clock2)) base pb g mb cap ⟨s.now.set k h, putK k c s.last⟩ := by
  have F := put_frame hP k h es1 es2 clock1 clock2
  obtain ⟨n1, n2, n3, n4⟩ := g_ne hP
  refine ⟨(Fr.of_below hB g mb).trans F, ?_, ?_, ?_, hP.lo, ⟨Nat.lt_of_lt_of_le hP.hi.1 F.size, Nat.lt_of_lt_of_le hP.hi.2.1 F.size, Nat.lt_of_lt_of_le hP.hi.2.2 F.size⟩⟩
  · rw [F.block pb hP.hi.1 n1 n3, List.length_set]
    exact hP.pb_
  · have h1 := Kd.R_putn hP.now (k : Int) h
    rw [Int.toNat_natCast] at h1
    have hm1 : (U.setCell ⟨g, k, none⟩ (.string h)).heap[mb]? = some (.map es clock) := (Below.heap_setCell U ⟨g, k, none⟩ _ mb n2).trans hm
    have hm2 := (MapKept.heap_set (w := U.setCell ⟨g, k, none⟩ (.string h)) (o' := .map es1 clock1) hm1).1
    rw [List.length_set]
    exact R_map h1 hm1 (fun j hj h2 => by rw [setBlock_far' hm2 h2, setBlock_far' (w := U.setCell ⟨g, k, none⟩ (.string h)) hm1 h2])
  · have hm1 : (U.setCell ⟨g, k, none⟩ (.string h)).heap[mb]? = some (.map es clock) := (Below.heap_setCell U ⟨g, k, none⟩ _ mb n2).trans hm
    have hm2 := (MapKept.heap_set (w := U.setCell ⟨g, k, none⟩ (.string h)) (o' := .map es1 clock1) hm1).1
    refine ⟨es2, clock2, (MapKept.heap_set hm2).1, ?_⟩
    exact hnext _ c (hE.imp (fun _ _ _ hx => hx.fr hP F.block)) (hval.fr hP F.block)

/-- The three steps of a change that is done, from a world X on. -/
theorem put_prep {X : World} {base pb g mb cap : Nat} {s : St} (hP : PlanAt X base pb g mb cap s) (k : Nat) (hk : k < s.now.length) (h : ByteArray) (val : Value) :
    ∃ (v0 : Value) (st : Nat) (es es1 es2 : Array MapEntry) (clock clock1 clock2 : Nat),
      (Instr.mapEntry 46 (.map (some mb)) (.int .i64 (k : Int))).run Tryz.prog (X.setCell ⟨g, k, none⟩ (.string h)) = .ok (.tuple #[v0, .int .i64 (st : Int)]) (setBlock (X.setCell ⟨g, k, none⟩ (.string h)) mb (.map es1 clock1)) ∧
      (Instr.entryStore 46 (.map (some mb)) (.int .i64 (st : Int)) val).run Tryz.prog (setBlock (X.setCell ⟨g, k, none⟩ (.string h)) mb (.map es1 clock1)) = .ok () (setBlock (setBlock (X.setCell ⟨g, k, none⟩ (.string h)) mb (.map es1 clock1)) mb (.map es2 clock2)) ∧
      (X.cell? ⟨g, k, none⟩ = some (.string (rdOf ByteArray.empty s.now (k : Int))) ∧ X.frozen? ⟨g, k, none⟩ = false) ∧
      (∀ a : Addr, a.block ≠ g → a.block ≠ mb → (X.setCell ⟨g, k, none⟩ (.string h)).cell? a = X.cell? a ∧ (setBlock (X.setCell ⟨g, k, none⟩ (.string h)) mb (.map es1 clock1)).cell? a = X.cell? a ∧ (setBlock (setBlock (X.setCell ⟨g, k, none⟩ (.string h)) mb (.map es1 clock1)) mb (.map es2 clock2)).cell? a = X.cell? a) ∧
      X.heap[mb]? = some (.map es clock) ∧ Ents (EntRel X base) es clock s.last ∧ ∀ (R' : Nat → Chg → Value → Prop) (c : Chg), Ents R' es clock s.last → R' k c val → Ents R' es2 clock2 (putK k c s.last) := by
  obtain ⟨gc, gf⟩ := Kd.R_celln ByteArray.empty hP.now (k : Int) (by omega) (by omega)
  rw [Int.toNat_natCast] at gc gf
  obtain ⟨n1, n2, n3, n4⟩ := g_ne hP
  obtain ⟨es, clock, hm, hE⟩ := hP.map
  have hm1 : (X.setCell ⟨g, k, none⟩ (.string h)).heap[mb]? = some (.map es clock) := (Below.heap_setCell X ⟨g, k, none⟩ _ mb n2).trans hm
  obtain ⟨v0, st, es1, clock1, hrun1, hnext⟩ := entry_then Tryz.underlying46 Tryz.underlying3 Tryz.zeroValue39 hm1 hE k
  have hm2 := (MapKept.heap_set (o' := .map es1 clock1) hm1).1
  obtain ⟨es2, clock2, hrun2, hE2⟩ := hnext (setBlock (X.setCell ⟨g, k, none⟩ (.string h)) mb (.map es1 clock1)) val hm2
  refine ⟨v0, st, es, es1, es2, clock, clock1, clock2, hrun1, hrun2, ⟨gc, gf⟩, fun a h1 h2 => ?_, hm, hE, hE2⟩
  have e1 : (X.setCell ⟨g, k, none⟩ (.string h)).cell? a = X.cell? a := cell_far (p := ⟨g, k, none⟩) h1 _
  have e2 := (cell_setBlock (o' := .map es1 clock1) hm1 h2).trans e1
  exact ⟨e1, e2, (cell_setBlock (o' := .map es2 clock2) hm2 h2).trans e2⟩

theorem setBlock_far {w : World} {b k : Nat} {o o' : Obj} (h : w.heap[b]? = some o) (hk : k ≠ b) : (setBlock w b o').heap[k]? = w.heap[k]? := (MapKept.heap_set h).2 k hk

set_option maxHeartbeats 4000000 in
set_option maxRecDepth 100000 in
theorem do_gone (s : St) (c : Chg) (w : World) (base pb g mb cap : Nat) (VA : Option Addr) (vc : Nat) (hP : PlanAt w base pb g mb cap s) (hvc : c.val.length ≤ vc)
    (hs : c.name.size ≤ 140737488351232) (hT : Lib.Utf8Tabs 0 1 w) (hg : c.gone = true) (k : Nat) (hr : Nm.rightB c.name = true) (hfi : findI s.now c.name = some k) :
    Calls Tryz.prog 23 #[.pointer (some ⟨pb, 0, none⟩), .agg #[.string c.name, .slice VA c.val.length vc, .bool c.gone]] w fun e w' => e = .returned (.int .i64 0) ∧ Fr w w' g mb ∧ PlanAt w' base pb g mb cap ⟨s.now.set k ⟨#[]⟩, putK k c s.last⟩ := by
  have HRight := Aside0.mk (fun V (hV : Below w.heap.size w V) => Nm.right_any c.name V hs (Utf8Tabs_below hT hV))
  obtain ⟨hc, hck⟩ : ∃ hc : Chg, hc = c := ⟨c, rfl⟩
  obtain ⟨name, val, gone⟩ := c
  simp only at *
  subst hg
  have HP := Aside0.mk hP
  have HCK := Aside0.mk hck
  have hlt : k < s.now.length := by
    have := (findI_some hfi).2
    exact (List.getElem?_eq_some_iff.1 this).1
  have HB0 := Aside0.mk (Below.alloc (Below.refl w.heap.size w) (Nat.le_refl _) (.cells #[.string name, .slice VA val.length vc, .bool true] 33))
  generalize hvn : val.length = vn at *
  have hDc : ∀ i : Nat, (w.alloc (.cells #[.string name, .slice VA vn vc, .bool true] 33)).heap[w.heap.size]? = some (.cells #[.string name, .slice VA vn vc, .bool true] 33 (0, 0)) := fun _ => blk_new w _
  have HFind := Aside0.mk (fun V (h : PlanAt V base pb g mb cap s) => find_any (some ⟨g, 0, none⟩) cap s.now name V (Kd.R_reads' h.now).2.2 (Kd.R_reads' h.now).2.1)
  rw [hfi] at HFind
  rw [hr] at HRight
  simp only [idxI] at HFind
  clear hT hvn hck hr hP hfi
  go_enter Tryz.func23, Tryz.ntmps23
  go_wp2_with (go_at_call 29; refine (HRight.out _ HB0.out).mono ?_; rintro e V ⟨rfl, hb⟩; have HB := Aside0.mk hb; have HD := Aside0.mk (blk_below (hDc 0) hb); have HPV := Aside0.mk (HP.out.below (below_step HB0.out hb)); clear hb; have k0 := ((blk_cell HD.out 0).trans rfl : V.cell? ⟨w.heap.size, 0, none⟩ = some (.string name)); have k1 := ((blk_cell HD.out 1).trans rfl : V.cell? ⟨w.heap.size, 1, none⟩ = some (.slice VA vn vc)); have k2 := ((blk_cell HD.out 2).trans rfl : V.cell? ⟨w.heap.size, 2, none⟩ = some (.bool true)); have k3 := ((blk_cell HPV.out.pb_ 0).trans rfl : V.cell? ⟨pb, 0, none⟩ = some (.slice (some ⟨g, 0, none⟩) s.now.length cap)); have k4 := ((blk_cell HPV.out.pb_ 1).trans rfl : V.cell? ⟨pb, 1, none⟩ = some (.map (some mb))))
  go_region_held3 (fun W' => W'.cell? ⟨pb, 0, none⟩ = some (.slice (some ⟨g, 0, none⟩) s.now.length cap) ∧ W'.cell? ⟨w.heap.size, 0, none⟩ = some (.string name) ∧ W'.cell? ⟨w.heap.size, 2, none⟩ = some (.bool true)) (first | exact ⟨k3, k0, k2⟩) (first | (go_at_call 6; refine (HFind.out _ HPV.out.drew).mono ?_; rintro e w' ⟨rfl, ⟨nd, rfl⟩⟩))
  obtain ⟨U, hU⟩ : ∃ U, V.drewN (1 + nd) = U := ⟨_, rfl⟩
  have HPU := Aside0.mk (HPV.out.below (pw_below_drewN (Below.refl V.heap.size V) (1 + nd)))
  have HBU := Aside0.mk (pw_below_drewN (below_step HB0.out HB.out) (1 + nd))
  have u0 : (V.drewN (1 + nd)).cell? ⟨pb, 0, none⟩ = some (.slice (some ⟨g, 0, none⟩) s.now.length cap) := k3
  have u1 : (V.drewN (1 + nd)).cell? ⟨w.heap.size, 2, none⟩ = some (.bool true) := k2
  have u3 : (V.drewN (1 + nd)).cell? ⟨pb, 1, none⟩ = some (.map (some mb)) := k4
  rw [hU] at HPU HBU u0 u1 u3 ⊢
  clear hU HB HD HPV k0 k1 k2 k3 k4 HFind HRight hDc HB0
  have hk0 : (0 : Int) ≤ (k : Int) := by omega
  have hkd : decide ((k : Int) < 0) = false := decide_eq_false (by omega)
  have hk1 : (k : Int) < (s.now.length : Int) := by omega
  go_wp2
  obtain ⟨gc, gf⟩ := Kd.R_celln ByteArray.empty HPU.out.now (k : Int) hk0 hk1
  rw [Int.toNat_natCast] at gc gf
  obtain ⟨n1, n2, n3, n4⟩ := g_ne HPU.out
  obtain ⟨es, clock, hm, hE⟩ := HPU.out.map
  have hm1 : (U.setCell ⟨g, k, none⟩ (.string ⟨#[]⟩)).drew.heap[mb]? = some (.map es clock) := (Below.heap_setCell U ⟨g, k, none⟩ _ mb n2).trans hm
  have gs : (U.setCell ⟨g, k, none⟩ (.string ⟨#[]⟩)).drew.cell? ⟨pb, 0, none⟩ = some (.slice (some ⟨g, 0, none⟩) s.now.length cap) ∧ (U.setCell ⟨g, k, none⟩ (.string ⟨#[]⟩)).drew.cell? ⟨pb, 1, none⟩ = some (.map (some mb)) := ⟨(cell_far (p := ⟨g, k, none⟩) (a := ⟨pb, 0, none⟩) n1 _).trans u0, (cell_far (p := ⟨g, k, none⟩) (a := ⟨pb, 1, none⟩) n1 _).trans u3⟩
  obtain ⟨v0, st, es1, clock1, hrun1, hnext⟩ := entry_then Tryz.underlying46 Tryz.underlying3 Tryz.zeroValue39 hm1 hE k
  have hm2 := setBlock_at (o' := .map es1 clock1) hm1
  obtain ⟨es2, clock2, hrun2, hE2⟩ := hnext _ (.agg #[.int .i64 (k : Int), .string ⟨#[]⟩, .slice none 0 0, .bool true]) hm2
  have hm3 := setBlock_at (o' := .map es2 clock2) hm2
  have gs2 := And.intro ((cell_setBlock (o' := .map es1 clock1) hm1 (a := ⟨pb, 0, none⟩) n3).trans gs.1) ((cell_setBlock (o' := .map es1 clock1) hm1 (a := ⟨pb, 1, none⟩) n3).trans gs.2)
  have gs3 := And.intro ((cell_setBlock (o' := .map es2 clock2) hm2 (a := ⟨pb, 0, none⟩) n3).trans gs2.1) ((cell_setBlock (o' := .map es2 clock2) hm2 (a := ⟨pb, 1, none⟩) n3).trans gs2.2)
  have HE2 := Aside0.mk hE2
  have HM := Aside0.mk (And.intro hm (And.intro hm1 (And.intro hm2 hm3)))
  have HE := Aside0.mk hE
  clear hE hnext hE2 hm1 hm2 hm3 hm u1
  go_region_held3 (fun W' => W'.cell? ⟨pb, 0, none⟩ = some (.slice (some ⟨g, 0, none⟩) s.now.length cap) ∧ W'.cell? ⟨pb, 1, none⟩ = some (.map (some mb))) (first | exact ⟨u0, u3⟩ | exact gs | exact gs2 | exact gs3) (first | fail)
  go_wp2
  go_ret
  refine ⟨rfl, ?_⟩
  exact put_done (U := U.drew) HPU.out.drew HBU.out.drew k hlt ⟨#[]⟩ ⟨name, val, true⟩ HM.out.1 HE.out HE2.out ⟨.slice none 0 0, rfl, Kd.R_nil _ _ _ _ _⟩

set_option maxHeartbeats 4000000 in
set_option maxRecDepth 100000 in
theorem do_put (s : St) (c : Chg) (w : World) (base pb g mb cap : Nat) (VA : Option Addr) (vc : Nat) (hP : PlanAt w base pb g mb cap s) (hV : (Kd.int .u8).C w VA c.val.length c.val) (hvc : c.val.length ≤ vc)
    (hs : c.name.size ≤ 140737488351232) (hT : Lib.Utf8Tabs 0 1 w) (hg : c.gone = false) (h350 : c.val.length ≤ 350) (k : Nat) (hr : Nm.rightB c.name = true) (hlt : k < s.now.length)
    (hfi : findI s.now c.name = some k ∨ (findI s.now c.name = none ∧ freeI s.now = some k)) :
    Calls Tryz.prog 23 #[.pointer (some ⟨pb, 0, none⟩), .agg #[.string c.name, .slice VA c.val.length vc, .bool c.gone]] w fun e w' => e = .returned (.int .i64 0) ∧ Fr w w' g mb ∧ PlanAt w' base pb g mb cap ⟨s.now.set k c.name, putK k c s.last⟩ := by
  have HRight := Aside0.mk (fun V (hV : Below w.heap.size w V) => Nm.right_any c.name V hs (Utf8Tabs_below hT hV))
  have HClone := Aside0.mk (fun V (hb : Below w.heap.size w V) => clone_any VA vc c.val V (Kd.C_below hV hb) (by omega))
  obtain ⟨name, val, gone⟩ := c
  simp only at *
  subst hg
  have HP := Aside0.mk hP
  have HB0 := Aside0.mk (Below.alloc (Below.refl w.heap.size w) (Nat.le_refl _) (.cells #[.string name, .slice VA val.length vc, .bool false] 33))
  have hnew : w.heap.size ≠ g ∧ w.heap.size ≠ mb := ⟨fun e => by have := hP.hi.2.2; omega, fun e => by have := hP.hi.2.1; omega⟩
  obtain ⟨n1, n2, n3, n4⟩ := g_ne hP
  generalize hvn : val.length = vn at *
  have hd : decide (350 < vn) = false := decide_eq_false (by omega)
  have hd' : decide ((350 : Int) < (vn : Int)) = false := decide_eq_false (by omega)
  have hDc : ∀ i : Nat, (w.alloc (.cells #[.string name, .slice VA vn vc, .bool false] 33)).heap[w.heap.size]? = some (.cells #[.string name, .slice VA vn vc, .bool false] 33 (0, 0)) := fun _ => blk_new w _
  have HFind := Aside0.mk (fun V (h : PlanAt V base pb g mb cap s) => find_any (some ⟨g, 0, none⟩) cap s.now name V (Kd.R_reads' h.now).2.2 (Kd.R_reads' h.now).2.1)
  have HFree := Aside0.mk (fun V (h : PlanAt V base pb g mb cap s) => free_any (some ⟨g, 0, none⟩) cap s.now V (Kd.R_reads' h.now).2.2 (Kd.R_reads' h.now).2.1)
  rw [hr] at HRight
  have hk0 : (0 : Int) ≤ (k : Int) := by omega
  have hkd : decide ((k : Int) < 0) = false := decide_eq_false (by omega)
  have hk1 : (k : Int) < (s.now.length : Int) := by omega
  have hPrep := Aside0.mk (fun X (h : PlanAt X base pb g mb cap s) sv => put_prep h k hlt name (.agg #[.int .i64 (k : Int), .string name, sv, .bool false]))
  have HN := Aside0.mk (And.intro n1 (And.intro n3 hnew))
  have HR5 : Aside0 (∀ (X : World) (b : Nat) (sv : Value), base ≤ b → (Kd.int .u8).R 5 X b (fun _ => True) sv val → EntRel X base k ⟨name, val, false⟩ (.agg #[.int .i64 (k : Int), .string name, sv, .bool false])) := ⟨fun X b sv hb hr => ⟨sv, rfl, Kd.R_lower hr hb⟩⟩
  have HLT := Aside0.mk hlt
  clear hT hr hP hvn h350 hV n1 n2 n3 n4 hnew hlt
  rcases hfi with hfi | ⟨hfi, hfr⟩
  · rw [hfi] at HFind
    simp only [idxI] at HFind
    clear hfi
    go_enter Tryz.func23, Tryz.ntmps23
    go_wp2_with (go_at_call 29; refine (HRight.out _ HB0.out).mono ?_; rintro e V ⟨rfl, hb⟩; have HB := Aside0.mk hb; have HD := Aside0.mk (blk_below (hDc 0) hb); have HPV := Aside0.mk (HP.out.below (below_step HB0.out hb)); clear hb; have k0 := ((blk_cell HD.out 0).trans rfl : V.cell? ⟨w.heap.size, 0, none⟩ = some (.string name)); have k1 := ((blk_cell HD.out 1).trans rfl : V.cell? ⟨w.heap.size, 1, none⟩ = some (.slice VA vn vc)); have k2 := ((blk_cell HD.out 2).trans rfl : V.cell? ⟨w.heap.size, 2, none⟩ = some (.bool false)); have k3 := ((blk_cell HPV.out.pb_ 0).trans rfl : V.cell? ⟨pb, 0, none⟩ = some (.slice (some ⟨g, 0, none⟩) s.now.length cap)); have k4 := ((blk_cell HPV.out.pb_ 1).trans rfl : V.cell? ⟨pb, 1, none⟩ = some (.map (some mb))))
    go_region_held3 (fun W' => W'.cell? ⟨pb, 0, none⟩ = some (.slice (some ⟨g, 0, none⟩) s.now.length cap) ∧ W'.cell? ⟨w.heap.size, 0, none⟩ = some (.string name) ∧ W'.cell? ⟨w.heap.size, 2, none⟩ = some (.bool false)) (first | exact ⟨k3, k0, k2⟩) (first | (go_at_call 6; refine (HFind.out _ HPV.out.drew).mono ?_; rintro e w' ⟨rfl, ⟨nd, rfl⟩⟩))
    obtain ⟨U, hU⟩ : ∃ U, V.drewN (1 + nd) = U := ⟨_, rfl⟩
    have HPU := Aside0.mk (HPV.out.below (pw_below_drewN (Below.refl V.heap.size V) (1 + nd)))
    have HBU := Aside0.mk (pw_below_drewN (below_step HB0.out HB.out) (1 + nd))
    have u0 : (V.drewN (1 + nd)).cell? ⟨pb, 0, none⟩ = some (.slice (some ⟨g, 0, none⟩) s.now.length cap) := k3
    have u1 : (V.drewN (1 + nd)).cell? ⟨pb, 1, none⟩ = some (.map (some mb)) := k4
    have u2 : (V.drewN (1 + nd)).cell? ⟨w.heap.size, 0, none⟩ = some (.string name) := k0
    have u3 : (V.drewN (1 + nd)).cell? ⟨w.heap.size, 1, none⟩ = some (.slice VA vn vc) := k1
    have u4 : (V.drewN (1 + nd)).cell? ⟨w.heap.size, 2, none⟩ = some (.bool false) := k2
    rw [hU] at HPU HBU u0 u1 u2 u3 u4 ⊢
    clear hU HB HD HPV k0 k1 k2 k3 k4 HFind HRight hDc HB0 HFree
    go_wp2
    go_region_held3 (fun W' => W'.cell? ⟨pb, 0, none⟩ = some (.slice (some ⟨g, 0, none⟩) s.now.length cap) ∧ W'.cell? ⟨pb, 1, none⟩ = some (.map (some mb)) ∧ W'.cell? ⟨w.heap.size, 0, none⟩ = some (.string name) ∧ W'.cell? ⟨w.heap.size, 1, none⟩ = some (.slice VA vn vc))
      (first | exact ⟨u0, u1, u2, u3⟩ | exact x0 | exact x1 | exact x2 | exact x3)
      (first | (go_at_call 34; refine (HClone.out _ HBU.out.drew).mono ?_; rintro e X ⟨sv, rfl, hR, hbX⟩; obtain ⟨SA, sc, hsv⟩ := Kd.R_slice hR; subst hsv; obtain ⟨v0, st, es, es1, es2, clock, clock1, clock2, hrun1, hrun2, hgc, hcell, hrest⟩ := hPrep.out X (HPU.out.drew.below hbX) (.slice SA val.length sc); have HREST := Aside0.mk hrest; have HR := Aside0.mk hR; have HBX := Aside0.mk hbX; have x0 := (⟨(hbX.cell (p := ⟨pb, 0, none⟩) (World.block_lt_of_cell? U _ u0)).trans u0, (hbX.cell (p := ⟨pb, 1, none⟩) (World.block_lt_of_cell? U _ u1)).trans u1, (hbX.cell (p := ⟨w.heap.size, 0, none⟩) (World.block_lt_of_cell? U _ u2)).trans u2, (hbX.cell (p := ⟨w.heap.size, 1, none⟩) (World.block_lt_of_cell? U _ u3)).trans u3⟩ : X.cell? ⟨pb, 0, none⟩ = some (.slice (some ⟨g, 0, none⟩) s.now.length cap) ∧ X.cell? ⟨pb, 1, none⟩ = some (.map (some mb)) ∧ X.cell? ⟨w.heap.size, 0, none⟩ = some (.string name) ∧ X.cell? ⟨w.heap.size, 1, none⟩ = some (.slice VA vn vc)); have c0 := hcell ⟨pb, 0, none⟩ HN.out.1 HN.out.2.1; have c1 := hcell ⟨pb, 1, none⟩ HN.out.1 HN.out.2.1; have c2 := hcell ⟨w.heap.size, 0, none⟩ HN.out.2.2.1 HN.out.2.2.2; have c3 := hcell ⟨w.heap.size, 1, none⟩ HN.out.2.2.1 HN.out.2.2.2; have x1 := And.intro (c0.1.trans x0.1) (And.intro (c1.1.trans x0.2.1) (And.intro (c2.1.trans x0.2.2.1) (c3.1.trans x0.2.2.2))); have x2 := And.intro (c0.2.1.trans x0.1) (And.intro (c1.2.1.trans x0.2.1) (And.intro (c2.2.1.trans x0.2.2.1) (c3.2.1.trans x0.2.2.2))); have x3 := And.intro (c0.2.2.trans x0.1) (And.intro (c1.2.2.trans x0.2.1) (And.intro (c2.2.2.trans x0.2.2.1) (c3.2.2.trans x0.2.2.2))); obtain ⟨gc, gf⟩ := hgc; clear hrest hR hbX hcell c0 c1 c2 c3))
    go_wp2
    go_ret
    refine ⟨rfl, ?_⟩
    exact put_done (HPU.out.drew.below HBX.out) (below_step HBU.out.drew HBX.out) k HLT.out name ⟨name, val, false⟩ HREST.out.1 HREST.out.2.1 HREST.out.2.2 (HR5.out _ _ _ (Nat.le_trans HPU.out.lo.1 (Nat.le_of_lt HPU.out.hi.1)) HR.out)
  · rw [hfi] at HFind
    rw [hfr] at HFree
    simp only [idxI] at HFind HFree
    clear hfi hfr
    go_enter Tryz.func23, Tryz.ntmps23
    go_wp2_with (go_at_call 29; refine (HRight.out _ HB0.out).mono ?_; rintro e V ⟨rfl, hb⟩; have HB := Aside0.mk hb; have HD := Aside0.mk (blk_below (hDc 0) hb); have HPV := Aside0.mk (HP.out.below (below_step HB0.out hb)); clear hb; have k0 := ((blk_cell HD.out 0).trans rfl : V.cell? ⟨w.heap.size, 0, none⟩ = some (.string name)); have k1 := ((blk_cell HD.out 1).trans rfl : V.cell? ⟨w.heap.size, 1, none⟩ = some (.slice VA vn vc)); have k2 := ((blk_cell HD.out 2).trans rfl : V.cell? ⟨w.heap.size, 2, none⟩ = some (.bool false)); have k3 := ((blk_cell HPV.out.pb_ 0).trans rfl : V.cell? ⟨pb, 0, none⟩ = some (.slice (some ⟨g, 0, none⟩) s.now.length cap)); have k4 := ((blk_cell HPV.out.pb_ 1).trans rfl : V.cell? ⟨pb, 1, none⟩ = some (.map (some mb))))
    go_region_held3 (fun W' => W'.cell? ⟨pb, 0, none⟩ = some (.slice (some ⟨g, 0, none⟩) s.now.length cap) ∧ W'.cell? ⟨w.heap.size, 0, none⟩ = some (.string name) ∧ W'.cell? ⟨w.heap.size, 2, none⟩ = some (.bool false)) (first | exact ⟨k3, k0, k2⟩) (first | (go_at_call 6; refine (HFind.out _ HPV.out.drew).mono ?_; rintro e w' ⟨rfl, ⟨nd, rfl⟩⟩))
    go_wp2_with (go_at_call 8; refine (HFree.out _ (HPV.out.below (pw_below_drewN (Below.refl _ _) _))).mono ?_; rintro e w' ⟨rfl, ⟨nd2, rfl⟩⟩)
    obtain ⟨U, hU⟩ : ∃ U, V.drewN (1 + nd + nd2) = U := ⟨_, rfl⟩
    have HPU := Aside0.mk (HPV.out.below (pw_below_drewN (Below.refl V.heap.size V) (1 + nd + nd2)))
    have HBU := Aside0.mk (pw_below_drewN (below_step HB0.out HB.out) (1 + nd + nd2))
    have u0 : (V.drewN (1 + nd + nd2)).cell? ⟨pb, 0, none⟩ = some (.slice (some ⟨g, 0, none⟩) s.now.length cap) := k3
    have u1 : (V.drewN (1 + nd + nd2)).cell? ⟨pb, 1, none⟩ = some (.map (some mb)) := k4
    have u2 : (V.drewN (1 + nd + nd2)).cell? ⟨w.heap.size, 0, none⟩ = some (.string name) := k0
    have u3 : (V.drewN (1 + nd + nd2)).cell? ⟨w.heap.size, 1, none⟩ = some (.slice VA vn vc) := k1
    have u4 : (V.drewN (1 + nd + nd2)).cell? ⟨w.heap.size, 2, none⟩ = some (.bool false) := k2
    rw [hU] at HPU HBU u0 u1 u2 u3 u4 ⊢
    clear hU HB HD HPV k0 k1 k2 k3 k4 HFind HRight hDc HB0 HFree
    try go_wp2
    go_region_held3 (fun W' => W'.cell? ⟨pb, 0, none⟩ = some (.slice (some ⟨g, 0, none⟩) s.now.length cap) ∧ W'.cell? ⟨pb, 1, none⟩ = some (.map (some mb)) ∧ W'.cell? ⟨w.heap.size, 0, none⟩ = some (.string name) ∧ W'.cell? ⟨w.heap.size, 1, none⟩ = some (.slice VA vn vc))
      (first | exact ⟨u0, u1, u2, u3⟩ | exact x0 | exact x1 | exact x2 | exact x3)
      (first | (go_at_call 34; refine (HClone.out _ HBU.out.drew).mono ?_; rintro e X ⟨sv, rfl, hR, hbX⟩; obtain ⟨SA, sc, hsv⟩ := Kd.R_slice hR; subst hsv; obtain ⟨v0, st, es, es1, es2, clock, clock1, clock2, hrun1, hrun2, hgc, hcell, hrest⟩ := hPrep.out X (HPU.out.drew.below hbX) (.slice SA val.length sc); have HREST := Aside0.mk hrest; have HR := Aside0.mk hR; have HBX := Aside0.mk hbX; have x0 := (⟨(hbX.cell (p := ⟨pb, 0, none⟩) (World.block_lt_of_cell? U _ u0)).trans u0, (hbX.cell (p := ⟨pb, 1, none⟩) (World.block_lt_of_cell? U _ u1)).trans u1, (hbX.cell (p := ⟨w.heap.size, 0, none⟩) (World.block_lt_of_cell? U _ u2)).trans u2, (hbX.cell (p := ⟨w.heap.size, 1, none⟩) (World.block_lt_of_cell? U _ u3)).trans u3⟩ : X.cell? ⟨pb, 0, none⟩ = some (.slice (some ⟨g, 0, none⟩) s.now.length cap) ∧ X.cell? ⟨pb, 1, none⟩ = some (.map (some mb)) ∧ X.cell? ⟨w.heap.size, 0, none⟩ = some (.string name) ∧ X.cell? ⟨w.heap.size, 1, none⟩ = some (.slice VA vn vc)); have c0 := hcell ⟨pb, 0, none⟩ HN.out.1 HN.out.2.1; have c1 := hcell ⟨pb, 1, none⟩ HN.out.1 HN.out.2.1; have c2 := hcell ⟨w.heap.size, 0, none⟩ HN.out.2.2.1 HN.out.2.2.2; have c3 := hcell ⟨w.heap.size, 1, none⟩ HN.out.2.2.1 HN.out.2.2.2; have x1 := And.intro (c0.1.trans x0.1) (And.intro (c1.1.trans x0.2.1) (And.intro (c2.1.trans x0.2.2.1) (c3.1.trans x0.2.2.2))); have x2 := And.intro (c0.2.1.trans x0.1) (And.intro (c1.2.1.trans x0.2.1) (And.intro (c2.2.1.trans x0.2.2.1) (c3.2.1.trans x0.2.2.2))); have x3 := And.intro (c0.2.2.trans x0.1) (And.intro (c1.2.2.trans x0.2.1) (And.intro (c2.2.2.trans x0.2.2.1) (c3.2.2.trans x0.2.2.2))); obtain ⟨gc, gf⟩ := hgc; clear hrest hR hbX hcell c0 c1 c2 c3))
    go_wp2
    go_ret
    refine ⟨rfl, ?_⟩
    exact put_done (HPU.out.drew.below HBX.out) (below_step HBU.out.drew HBX.out) k HLT.out name ⟨name, val, false⟩ HREST.out.1 HREST.out.2.1 HREST.out.2.2 (HR5.out _ _ _ (Nat.le_trans HPU.out.lo.1 (Nat.le_of_lt HPU.out.hi.1)) HR.out)
end Go.Proofs.YtmonfmmcgfmeeaaGreatDoor.Lf
