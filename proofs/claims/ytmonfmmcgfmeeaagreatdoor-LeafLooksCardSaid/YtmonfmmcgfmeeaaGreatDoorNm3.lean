/- The count of runes of a part. -/
import Derived.Test.YtmonfmmcgfmeeaaGreatDoorNm2
import Derived.Test.YtmonfmmcgfmeeaaGreatDoorShA
import Derived.Lib.ValidLaws
namespace Go.Proofs.YtmonfmmcgfmeeaaGreatDoor.Nm
open Go.RowKit Go.Proofs.YtmonfmmcgfmeeaaGreatDoorW.PrintWords
set_option linter.unusedVariables false
set_option linter.unusedSimpArgs false

theorem small_not_error {r : Int} (h : smallB r = true) : r ≠ 65533 := by
  rintro rfl
  revert h; decide

theorem valid_from (s : ByteArray) : ∀ (b pos : Nat), s.size ≤ pos + b → (runesFrom s b pos).all smallB = true → Lib.validD (s.data.toList.drop pos) = true := by
  intro b
  induction b with
  | zero =>
    intro pos hb _
    rw [List.drop_of_length_le (by simpa using hb)]; rfl
  | succ b ih =>
    intro pos hb h
    by_cases hp : pos < s.size
    · have hne : s.data.toList.drop pos ≠ [] := by
        intro e
        have := congrArg List.length e
        rw [List.length_drop] at this
        simp at this
        have h2 : s.data.size = s.size := rfl
        omega
      simp only [runesFrom] at h
      rw [if_pos hp, List.all_cons, Bool.and_eq_true] at h
      have hw := Lib.decode_width_pos s pos hp
      rw [Lib.validD_step _ hne, Lib.decodeL_drop, if_neg (fun hh => small_not_error h.1 (by rw [hh.1]; rfl)), List.drop_drop]
      exact ih (pos + (Utf8.decode s pos).2) (by omega) h.2
    · rw [List.drop_of_length_le (by have h2 : s.data.size = s.size := rfl; simp; omega)]; rfl

theorem valid_of_part {s : ByteArray} (h : partB s = true) : Lib.validD s.data.toList = true := by
  unfold partB at h
  rw [Bool.and_eq_true] at h
  simpa using valid_from s s.size 0 (by omega) h.1

set_option maxHeartbeats 4000000 in
set_option maxRecDepth 100000 in
theorem count_part (s : ByteArray) (w : World) (hs : s.size ≤ 140737488351232) (hp : partB s = true) (hT : Lib.Utf8Tabs 0 1 w) :
    Calls Tryz.prog 50 #[.string s] w fun e w' => e = .returned (.int .i64 ((runesOf s).length : Nat)) ∧ Below w.heap.size w w' := by
  have hv := Any.utf8_ValidString Tryz.lays196 s w (by omega) hT
  rw [valid_of_part hp] at hv
  change Calls Tryz.prog 66 _ _ _ at hv
  have HV := Aside0.mk hv
  clear hv hT
  obtain ⟨L, hL⟩ : ∃ L, L = runesOf s := ⟨_, rfl⟩
  have HLL := Aside0.mk hL
  have HLN := Aside0.mk (show L.length ≤ s.size by rw [hL]; exact runesFrom_le s _ _)
  rw [← hL]
  clear hL hp
  go_enter Tryz.func50, Tryz.ntmps50
  go_wp2_with (go_at_call 66; refine HV.out.mono ?_; rintro e w1 ⟨rfl, hb1⟩; have HB1 := Aside0.mk hb1; clear hb1)
  go_loopw [2] (fun v2 wr => ∃ (pos b : Nat) (pre : List Int), wr = w1.iter s pos ∧ v2 = .int .i64 (pre.length : Nat) ∧ Aside0 (L = pre ++ runesFrom s b pos) ∧ Aside0 (s.size ≤ pos + b)) (fun _ wr => s.size - wr.iterPos w1.heap.size)
  case atStart => exact ⟨0, s.size, [], rfl, rfl, HLL, ⟨by omega⟩⟩
  case round =>
    obtain ⟨pos, b, pre, rfl, rfl, HL, HB⟩ := hrel
    by_cases hp : pos < s.size
    · have hnx : ∀ ty, (Instr.next (.pointer (some ⟨w1.heap.size, 0, none⟩)) true ty).run Tryz.prog (w1.iter s pos) = _ := fun ty => run_next_any w1 s pos ty hp
      have hwd := Lib.decode_width_pos s pos hp
      obtain ⟨b, rfl⟩ : ∃ c, b = c + 1 := ⟨b - 1, by have := HB.out; omega⟩
      have hL2 : L = (pre ++ [((Utf8.decode s pos).1 : Int)]) ++ runesFrom s b (pos + (Utf8.decode s pos).2) := by
        have := HL.out
        simp only [runesFrom] at this
        rw [if_pos hp] at this
        rw [this]; simp
      have HL2 := Aside0.mk hL2
      have hpl : pre.length ≤ s.size := by have := HLN.out; rw [hL2] at this; simp at this; omega
      clear hL2
      go_wp2
      go_roundw
      case rel => exact ⟨pos + (Utf8.decode s pos).2, b, pre ++ [((Utf8.decode s pos).1 : Int)], rfl, by simp, HL2, ⟨by have := HB.out; omega⟩⟩
      case measure => simp; omega
    · have hnx : ∀ ty, (Instr.next (.pointer (some ⟨w1.heap.size, 0, none⟩)) true ty).run Tryz.prog (w1.iter s pos) = _ := fun ty => run_next_end w1 s pos ty hp
      have hLp : L = pre := by have := HL.out; rwa [runesFrom_end s b pos hp, List.append_nil] at this
      subst hLp
      go_wp2
      go_ret
      exact ⟨rfl, below_step HB1.out ((Below.refl _ _).alloc (Nat.le_refl _) _)⟩
end Go.Proofs.YtmonfmmcgfmeeaaGreatDoor.Nm
