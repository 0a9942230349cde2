/- One change of a plan: (*plan).do. -/
import Derived.Test.YtmonfmmcgfmeeaaGreatDoorLf1
import Derived.Test.YtmonfmmcgfmeeaaGreatDoorMp
import Derived.Test.YtmonfmmcgfmeeaaGreatDoorNm5
namespace Go.Proofs.YtmonfmmcgfmeeaaGreatDoor.Lf
open Go.RowKit Go.Shelf Go.Proofs.YtmonfmmcgfmeeaaGreatDoor.Pl Go.Proofs.YtmonfmmcgfmeeaaGreatDoorW.PrintWords Go.Proofs.YtmonfmmcgfmeeaaGreatDoor.Mp Go.ChangeMaps
set_option linter.unusedVariables false
set_option linter.unusedSimpArgs false

def valOf (c : Chg) : List Int := if c.gone = true then [] else c.val
def EntRel (w : World) (base : Nat) (k : Nat) (c : Chg) (v : Value) : Prop :=
  ∃ sv, v = .agg #[.int .i64 (k : Int), .string (headOf c), sv, .bool c.gone] ∧ (Kd.int .u8).R 5 w base (fun _ => True) sv (valOf c)

/-- A plan as it stands in memory: its own struct, its row of heads, its map of last changes. -/
structure PlanAt (w : World) (base pb g mb cap : Nat) (s : St) : Prop where
  pb_ : w.heap[pb]? = some (.cells #[.slice (some ⟨g, 0, none⟩) s.now.length cap, .map (some mb)] 48 (0, 0))
  now : Kd.string.R 9 w base (fun _ => True) (.slice (some ⟨g, 0, none⟩) s.now.length cap) s.now
  map : ∃ es clock, w.heap[mb]? = some (.map es clock) ∧ Ents (EntRel w base) es clock s.last
  lo : base ≤ pb ∧ base ≤ mb
  hi : pb < w.heap.size ∧ mb < w.heap.size ∧ g < w.heap.size

/-- What a change leaves as it was. -/
structure Fr (w w' : World) (g mb : Nat) : Prop where
  os : w'.os = w.os
  tape : w'.tape = w.tape
  output : w'.output = w.output
  size : w.heap.size ≤ w'.heap.size
  block : ∀ k, k < w.heap.size → k ≠ g → k ≠ mb → w'.heap[k]? = w.heap[k]?

theorem Fr.of_below {w w' : World} (h : Below w.heap.size w w') (g mb : Nat) : Fr w w' g mb := ⟨h.os, h.tape, h.output, h.size, fun k hk _ _ => h.block k hk⟩
theorem Fr.trans {a b c : World} {g mb : Nat} (h : Fr a b g mb) (k : Fr b c g mb) : Fr a c g mb :=
  ⟨k.os.trans h.os, k.tape.trans h.tape, k.output.trans h.output, Nat.le_trans h.size k.size, fun i hi h1 h2 => (k.block i (Nat.lt_of_lt_of_le hi h.size) h1 h2).trans (h.block i hi h1 h2)⟩
theorem Fr.below {w0 w w' : World} {g mb : Nat} (h : Fr w w' g mb) (hb : Below w0.heap.size w0 w) (hg : w0.heap.size ≤ g) (hm : w0.heap.size ≤ mb) : Below w0.heap.size w0 w' :=
  ⟨h.os.trans hb.os, h.tape.trans hb.tape, h.output.trans hb.output, Nat.le_trans hb.size h.size, fun k hk => (h.block k (Nat.lt_of_lt_of_le hk hb.size) (by omega) (by omega)).trans (hb.block k hk)⟩

theorem EntRel.below {w w1 : World} {base k : Nat} {c : Chg} {v : Value} (h : EntRel w base k c v) (hb : Below w.heap.size w w1) : EntRel w1 base k c v := by
  obtain ⟨sv, e, hr⟩ := h
  exact ⟨sv, e, Kd.R_below hr hb⟩
theorem PlanAt.below {w w1 : World} {base pb g mb cap : Nat} {s : St} (h : PlanAt w base pb g mb cap s) (hb : Below w.heap.size w w1) : PlanAt w1 base pb g mb cap s := by
  obtain ⟨es, clock, hm, hE⟩ := h.map
  exact ⟨blk_below h.pb_ hb, Kd.R_below h.now hb, ⟨es, clock, blk_below hm hb, hE.imp (fun _ _ _ hx => hx.below hb)⟩, h.lo, ⟨Nat.lt_of_lt_of_le h.hi.1 hb.size, Nat.lt_of_lt_of_le h.hi.2.1 hb.size, Nat.lt_of_lt_of_le h.hi.2.2 hb.size⟩⟩
theorem PlanAt.drew {w : World} {base pb g mb cap : Nat} {s : St} (h : PlanAt w base pb g mb cap s) : PlanAt w.drew base pb g mb cap s := h.below (Below.refl _ _).drew

set_option maxHeartbeats 4000000 in
set_option maxRecDepth 100000 in
theorem do_bad (s : St) (c : Chg) (w : World) (base pb g mb cap : Nat) (VA : Option Addr) (vc : Nat) (hP : PlanAt w base pb g mb cap s) (hV : (Kd.int .u8).C w VA c.val.length c.val) (hvc : c.val.length ≤ vc)
    (hs : c.name.size ≤ 140737488351232) (hT : Lib.Utf8Tabs 0 1 w) (f : Int) (he : stepI Nm.rightB s.now c = .error f) :
    Calls Tryz.prog 23 #[.pointer (some ⟨pb, 0, none⟩), .agg #[.string c.name, .slice VA c.val.length vc, .bool c.gone]] w fun e w' => e = .returned (.int .i64 f) ∧ Below w.heap.size w w' := by
  have HRight := Aside0.mk (fun V (hV : Below w.heap.size w V) => Nm.right_any c.name V hs (Utf8Tabs_below hT hV))
  have hvl : c.val.length ≤ 9223372036854775807 := hV.2.1
  obtain ⟨name, val, gone⟩ := c
  simp only at *
  have HP := Aside0.mk hP
  unfold stepI at he
  simp only at he
  have hP1 := hP.pb_
  have HB0 := Aside0.mk (Below.alloc (Below.refl w.heap.size w) (Nat.le_refl _) (.cells #[.string name, .slice VA val.length vc, .bool gone] 33))
  generalize hvn : val.length = vn at *
  clear hT hV hvn
  cases hr : Nm.rightB name
  · rw [hr] at HRight he
    rw [if_pos (.inl rfl)] at he
    injection he with he
    subst he
    clear hP1 hr hP
    go_enter Tryz.func23, Tryz.ntmps23
    go_wp2_with (go_at_call 29; refine (HRight.out _ HB0.out).mono ?_; rintro e w' ⟨rfl, hb⟩; have HB := Aside0.mk hb; clear hb)
    go_ret
    exact ⟨rfl, below_step HB0.out HB.out⟩
  · rw [hr] at HRight he
    have hDc : ∀ i : Nat, (w.alloc (.cells #[.string name, .slice VA vn vc, .bool gone] 33)).heap[w.heap.size]? = some (.cells #[.string name, .slice VA vn vc, .bool gone] 33 (0, 0)) := fun _ => blk_new w _
    cases gone
    · by_cases h350 : 350 < vn
      · rw [if_pos (.inr ⟨rfl, h350⟩)] at he
        injection he with he
        subst he
        have hd : decide (350 < vn) = true := decide_eq_true h350
        have hd' : decide ((350 : Int) < (vn : Int)) = true := decide_eq_true (by omega)
        clear hP1 hr hP
        go_enter Tryz.func23, Tryz.ntmps23
        go_wp2_with (go_at_call 29; refine (HRight.out _ HB0.out).mono ?_; rintro e w' ⟨rfl, hb⟩; have HB := Aside0.mk hb; have k1 := ((blk_cell (blk_below (hDc 0) hb) 1).trans rfl : w'.cell? ⟨w.heap.size, 1, none⟩ = some (.slice VA vn vc)); have k2 := ((blk_cell (blk_below (hDc 0) hb) 2).trans rfl : w'.cell? ⟨w.heap.size, 2, none⟩ = some (.bool false));  clear hb)
        go_ret
        exact ⟨rfl, below_step HB0.out HB.out⟩
      · rw [if_neg (by rintro (h | ⟨_, h⟩); (· cases h); (· exact h350 h))] at he
        have hd : decide (350 < vn) = false := decide_eq_false h350
        have hd' : decide ((350 : Int) < (vn : Int)) = false := decide_eq_false (by omega)
        cases hfi : findI s.now name with
        | some k => rw [hfi] at he; cases he
        | none =>
          rw [hfi] at he
          cases hfr : freeI s.now with
          | some k => rw [hfr] at he; cases he
          | none =>
            rw [hfr] at he
            simp only [Bool.false_eq_true, if_false, Except.error.injEq] at he
            subst he
            have HFind := Aside0.mk (fun V (h : PlanAt V base pb g mb cap s) => find_any (some ⟨g, 0, none⟩) cap s.now name V (Kd.R_reads' h.now).2.2 (Kd.R_reads' h.now).2.1)
            have HFree := Aside0.mk (fun V (h : PlanAt V base pb g mb cap s) => free_any (some ⟨g, 0, none⟩) cap s.now V (Kd.R_reads' h.now).2.2 (Kd.R_reads' h.now).2.1)
            rw [hfi] at HFind
            rw [hfr] at HFree
            simp only [idxI] at HFind HFree
            clear hP1 hr hP hfi hfr
            go_enter Tryz.func23, Tryz.ntmps23
            go_wp2_with (go_at_call 29; refine (HRight.out _ HB0.out).mono ?_; rintro e V ⟨rfl, hb⟩; have HB := Aside0.mk hb; have HD := Aside0.mk (blk_below (hDc 0) hb); have HPV := Aside0.mk (HP.out.below (below_step HB0.out hb)); clear hb; have k0 := ((blk_cell HD.out 0).trans rfl : V.cell? ⟨w.heap.size, 0, none⟩ = some (.string name)); have k1 := ((blk_cell HD.out 1).trans rfl : V.cell? ⟨w.heap.size, 1, none⟩ = some (.slice VA vn vc)); have k2 := ((blk_cell HD.out 2).trans rfl : V.cell? ⟨w.heap.size, 2, none⟩ = some (.bool false)); have k3 := ((blk_cell HPV.out.pb_ 0).trans rfl : V.cell? ⟨pb, 0, none⟩ = some (.slice (some ⟨g, 0, none⟩) s.now.length cap)))
            go_region_held3 (fun W' => W'.cell? ⟨pb, 0, none⟩ = some (.slice (some ⟨g, 0, none⟩) s.now.length cap) ∧ W'.cell? ⟨w.heap.size, 0, none⟩ = some (.string name) ∧ W'.cell? ⟨w.heap.size, 2, none⟩ = some (.bool false)) (first | exact ⟨k3, k0, k2⟩) (first | (go_at_call 6; refine (HFind.out _ HPV.out.drew).mono ?_; rintro e w' ⟨rfl, ⟨nd, rfl⟩⟩))
            go_wp2_with (go_at_call 8; refine (HFree.out _ (HPV.out.below (pw_below_drewN (Below.refl _ _) _))).mono ?_; rintro e w' ⟨rfl, ⟨nd2, rfl⟩⟩)
            go_ret
            exact ⟨rfl, pw_below_drewN (below_step HB0.out HB.out) _⟩
    · rw [if_neg (by rintro (h | ⟨h, _⟩) <;> cases h)] at he
      cases hfi : findI s.now name with
      | some k => rw [hfi] at he; cases he
      | none =>
        rw [hfi] at he
        simp only [if_true, Except.error.injEq] at he
        subst he
        have HFind := Aside0.mk (fun V (h : PlanAt V base pb g mb cap s) => find_any (some ⟨g, 0, none⟩) cap s.now name V (Kd.R_reads' h.now).2.2 (Kd.R_reads' h.now).2.1)
        rw [hfi] at HFind
        simp only [idxI] at HFind
        clear hP1 hr hP hfi
        go_enter Tryz.func23, Tryz.ntmps23
        go_wp2_with (go_at_call 29; refine (HRight.out _ HB0.out).mono ?_; rintro e V ⟨rfl, hb⟩; have HB := Aside0.mk hb; have HD := Aside0.mk (blk_below (hDc 0) hb); have HPV := Aside0.mk (HP.out.below (below_step HB0.out hb)); clear hb; have k0 := ((blk_cell HD.out 0).trans rfl : V.cell? ⟨w.heap.size, 0, none⟩ = some (.string name)); have k1 := ((blk_cell HD.out 1).trans rfl : V.cell? ⟨w.heap.size, 1, none⟩ = some (.slice VA vn vc)); have k2 := ((blk_cell HD.out 2).trans rfl : V.cell? ⟨w.heap.size, 2, none⟩ = some (.bool true)); have k3 := ((blk_cell HPV.out.pb_ 0).trans rfl : V.cell? ⟨pb, 0, none⟩ = some (.slice (some ⟨g, 0, none⟩) s.now.length cap)))
        go_region_held3 (fun W' => W'.cell? ⟨pb, 0, none⟩ = some (.slice (some ⟨g, 0, none⟩) s.now.length cap) ∧ W'.cell? ⟨w.heap.size, 0, none⟩ = some (.string name) ∧ W'.cell? ⟨w.heap.size, 2, none⟩ = some (.bool true)) (first | exact ⟨k3, k0, k2⟩) (first | (go_at_call 6; refine (HFind.out _ HPV.out.drew).mono ?_; rintro e w' ⟨rfl, ⟨nd, rfl⟩⟩))
        go_wp2
        go_ret
        exact ⟨rfl, pw_below_drewN (below_step HB0.out HB.out) _⟩
end Go.Proofs.YtmonfmmcgfmeeaaGreatDoor.Lf
