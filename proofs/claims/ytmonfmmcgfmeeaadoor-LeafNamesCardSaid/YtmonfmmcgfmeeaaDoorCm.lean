/- cmp.Compare of strings. -/
import Derived.Test.YtmonfmmcgfmeeaaDoorLf1
namespace Go.Proofs.YtmonfmmcgfmeeaaDoor.Lf
open Go.RowKit Go.Proofs.YtmonfmmcgfmeeaaDoorW.PrintWords
set_option linter.unusedVariables false
set_option linter.unusedSimpArgs false

theorem nan_any (a : ByteArray) (w : World) : Calls Tryd.prog 50 #[.string a] w fun e w' => e = .returned (.bool false) ∧ Drawn0 w w' := by
  go_enter Tryd.func50, Tryd.ntmps50
  go_wp2
  go_ret
  exact ⟨by first | rfl | simp, by repeat (first | exact Drawn0.refl _ | apply Drawn0.step)⟩

/-- Bytes compared. -/
def cmpS (a b : ByteArray) : Int := if Op.bytesLess a.toList b.toList = true then -1 else if a.toList = b.toList then 0 else 1

theorem run_gtr (a b : ByteArray) (W : World) : (binOp .gtr 9 (.string a) (.string b)).run Tryd.prog W = .ok (.bool (!(Op.bytesLess a.toList b.toList || a.toList == b.toList))) W := by
  simp [binOp, run_underlying Tryd.underlying9, Op.stringOp, Result.andThen]
set_option maxHeartbeats 1000000 in
theorem compare_any (a b : ByteArray) (w : World) : Calls Tryd.prog 32 #[.string a, .string b] w fun e w' => e = .returned (.int .i64 (cmpS a b)) ∧ Drawn0 w w' := by
  obtain ⟨r, hr⟩ : ∃ r, r = cmpS a b := ⟨_, rfl⟩
  rw [← hr]
  have hg := fun W => run_gtr a b W
  unfold cmpS at hr
  cases hl : Op.bytesLess a.toList b.toList
  · by_cases he : a.toList = b.toList
    · have e1 : (a.toList == b.toList) = true := by rw [beq_iff_eq]; exact he
      rw [if_neg (by rw [hl]; decide), if_pos he] at hr
      rw [hl, e1] at hg
      simp only [Bool.or_true, Bool.not_true] at hg
      subst hr
      clear he e1
      go_enter Tryd.func32, Tryd.ntmps32
      go_wp2_with (first | (go_at_call 50; refine (nan_any _ _).mono ?_; rintro e w' ⟨rfl, ⟨nd, rfl⟩⟩))
      go_ret
      exact ⟨by first | rfl | simp, by repeat (first | exact Drawn0.refl _ | apply Drawn0.step)⟩
    · have e1 : (a.toList == b.toList) = false := by rw [beq_eq_false_iff_ne]; exact he
      rw [if_neg (by rw [hl]; decide), if_neg he] at hr
      rw [hl, e1] at hg
      simp only [Bool.or_false, Bool.not_false] at hg
      subst hr
      clear he e1
      go_enter Tryd.func32, Tryd.ntmps32
      go_wp2_with (first | (go_at_call 50; refine (nan_any _ _).mono ?_; rintro e w' ⟨rfl, ⟨nd, rfl⟩⟩))
      go_ret
      exact ⟨by first | rfl | simp, by repeat (first | exact Drawn0.refl _ | apply Drawn0.step)⟩
  · rw [if_pos hl] at hr
    subst hr
    clear hg
    go_enter Tryd.func32, Tryd.ntmps32
    go_wp2_with (first | (go_at_call 50; refine (nan_any _ _).mono ?_; rintro e w' ⟨rfl, ⟨nd, rfl⟩⟩))
    go_ret
    exact ⟨by first | rfl | simp, by repeat (first | exact Drawn0.refl _ | apply Drawn0.step)⟩
end Go.Proofs.YtmonfmmcgfmeeaaDoor.Lf
