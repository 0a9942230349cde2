/- What must come at any rate: alive. -/
import Derived.Test.YtmonfmmcgfmeeaaGreatDoorPn
namespace Go.Proofs.YtmonfmmcgfmeeaaGreatDoor.Lf
open Go.RowKit Go.Shelf Go.Proofs.YtmonfmmcgfmeeaaGreatDoor.Pl Go.Proofs.YtmonfmmcgfmeeaaGreatDoorW.PrintWords Go.Proofs.YtmonfmmcgfmeeaaGreatDoor.Mp Go.ChangeMaps
set_option linter.unusedVariables false
set_option linter.unusedSimpArgs false

theorem right_b : Nm.rightB ⟨#[98]⟩ = true := by
  unfold Nm.rightB
  rw [Nm.pieces_miss (by rfl)]
  have h1 : Nm.runesOf (⟨#[98]⟩ : ByteArray) = [98] := by rfl
  simp [Nm.partB, h1, Nm.sumR]
  decide
theorem alive_run : runI Nm.rightB ⟨[⟨#[97]⟩, ⟨#[]⟩], []⟩ ([(⟨⟨#[98]⟩, [], false⟩ : S35)].map toChg) = .ok ⟨[⟨#[97]⟩, ⟨#[98]⟩], [(1, ⟨⟨#[98]⟩, [], false⟩)]⟩ := by
  have h1 : findI [⟨#[97]⟩, ⟨#[]⟩] ⟨#[98]⟩ = none := by decide
  have h2 : freeI [⟨#[97]⟩, ⟨#[]⟩] = some 1 := by decide
  simp only [List.map_cons, List.map_nil, toChg, runI, stepI, right_b, h1, h2]
  rfl
theorem alive_out : outOf [(1, (⟨⟨#[98]⟩, [], false⟩ : Chg))] = [⟨1, ⟨#[98]⟩, [], false⟩] := by
  simp [outOf, slotsOf, keysZ, outAt, getK, headOf, valOf]

/-- A row of strings just made. -/
theorem strs_new {W : World} {b : Nat} {xs : List ByteArray} {t : Nat} (h : W.heap[b]? = some (.cells (xs.map Value.string).toArray t (0, 0))) (hl : xs.length ≤ 9223372036854775807) : Kd.C Kd.string W (some ⟨b, 0, none⟩) xs.length xs := by
  refine Kd.C_of_reads (d := ByteArray.empty) ⟨rfl, hl, fun _ => ⟨_, rfl, fun j hj => ?_⟩⟩
  rw [add_plain]
  rw [blk_cell h j]
  simp [List.getD_eq_getElem?_getD, List.getElem?_eq_getElem hj]
theorem chg_new {W : World} {b : Nat} {s : ByteArray} {g : Bool} {t : Nat} (h : W.heap[b]? = some (.cells #[.string s, .slice none 0 0, .bool g] t (0, 0))) : Kd.C k35 W (some ⟨b, 0, none⟩) 1 [⟨s, [], g⟩] := by
  refine ⟨rfl, by omega, fun _ => ⟨_, rfl, fun j p hj => ?_⟩⟩
  have hj0 : j = 0 := by have := (List.getElem?_eq_some_iff.1 hj).1; simp at this; exact this
  subst hj0
  simp only [List.getElem?_cons_zero, Option.some.injEq] at hj
  subst hj
  refine ⟨_, rfl, k35_mk W ⟨s, [], g⟩ (A1 := none) (c1 := 0) (Nat.le_refl _) ⟨rfl, by simp, fun h => absurd h (by simp)⟩, fun i u hi => ?_⟩
  rw [add_plain, blk_cell h]
  simpa using hi

set_option maxHeartbeats 4000000 in
set_option maxRecDepth 100000 in
theorem alive_any (w : World) (hT : Lib.Utf8Tabs 0 1 w) :
    Calls Tryz.prog 5 #[] w fun e w' => e = .returned (.bool true) ∧ Below w.heap.size w w' := by
  have hb1 : Below w.heap.size w ((w.alloc (.cells #[.string ⟨#[97]⟩, .string ⟨#[]⟩] 9)).alloc (.cells #[.string ⟨#[98]⟩, .slice none 0 0, .bool false] 33)) := below_alloc (below_alloc (Below.refl _ _) _) _
  have HPlan := Aside0.mk (plan_any (some ⟨w.heap.size, 0, none⟩) 2 [⟨#[97]⟩, ⟨#[]⟩] (some ⟨w.heap.size + 1, 0, none⟩) 1 [⟨⟨#[98]⟩, [], false⟩] ((w.alloc (.cells #[.string ⟨#[97]⟩, .string ⟨#[]⟩] 9)).alloc (.cells #[.string ⟨#[98]⟩, .slice none 0 0, .bool false] 33)) (strs_new (blk_alloc (blk_new w _) _) (by simp)) (Nat.le_refl _) (chg_new (by simpa using blk_new (w.alloc (.cells #[.string ⟨#[97]⟩, .string ⟨#[]⟩] 9)) (.cells #[.string ⟨#[98]⟩, .slice none 0 0, .bool false] 33))) (Nat.le_refl _) (by simp) (by intro x hx; simp at hx; subst hx; decide) (Utf8Tabs_below hT hb1))
  rw [alive_run] at HPlan
  simp only [alive_out] at HPlan
  have HB1 := Aside0.mk hb1
  clear hb1 hT
  go_enter Tryz.func5, Tryz.ntmps5
  go_wp2_with (first
    | (go_at_call 14; refine HPlan.out.mono ?_; rintro e w1 ⟨v, rfl, hR, hb⟩; obtain ⟨A, c, rfl, hc, hC⟩ := Kd.R_reads hR; obtain ⟨ad, A2, c2, eA, x0, x1, _, _, _, _⟩ := at_T33 hC 0 (by omega) (by simp); subst eA; have y0 : w1.cell? ad = some (.int .i64 1) := x0; have y1 : w1.cell? ⟨ad.block, ad.off + 1, none⟩ = some (.string ⟨#[98]⟩) := x1; clear x0 x1; have HB2 := Aside0.mk (below_step HB1.out hb); clear hb hR hC)
    | (go_at_call 8; go_loud (refine (free_any (some ⟨w1.heap.size, 0, none⟩) 1 [⟨#[97]⟩] (w1.alloc (.cells #[.string ⟨#[97]⟩] 9)) (strs_new (blk_new w1 _) (by simp)) (Nat.le_refl _)).mono ?_); rintro e w2 ⟨rfl, ⟨nd, rfl⟩⟩))
  go_ret
  exact ⟨by rfl, pw_below_drewN (below_alloc HB2.out _) _⟩
end Go.Proofs.YtmonfmmcgfmeeaaGreatDoor.Lf
