/- Which runes are small letters or digits: the program's three functions on runes. -/
import Derived.Test.YtmonfmmcgfmeeaaDoorProg
import Derived.Test.YtmonfmmcgfmeeaaDoorWWords
import Derived.OwnWalk
import Derived.Tactics
import Derived.WalkKit
import Derived.KernelRfl
import Derived.WalkLawsBesides
namespace Go.Proofs.YtmonfmmcgfmeeaaDoor.Nm
open Go.RowKit Go.Proofs.YtmonfmmcgfmeeaaDoorW.PrintWords
set_option linter.unusedVariables false
set_option linter.unusedSimpArgs false

def upperB (r : Int) : Bool := (decide (65 ≤ r) && decide (r ≤ 90)) || (decide (192 ≤ r) && decide (r ≤ 222) && decide (r ≠ 215))
def letterB (r : Int) : Bool := upperB r || (decide (r ≠ 247) && ((decide (97 ≤ r) && decide (r ≤ 122)) || (decide (223 ≤ r) && decide (r ≤ 255))))
def smallB (r : Int) : Bool := (decide (48 ≤ r) && decide (r ≤ 57)) || (letterB r && !upperB r)

theorem ret_bool {a b : Bool} (h : a = b) : Ending.returned (.bool a) = Ending.returned (.bool b) := by rw [h]

theorem upper_any (r : Int) (w : World) : Calls Tryd.prog 73 #[.int .i32 r] w fun e w' => e = .returned (.bool (upperB r)) ∧ w = w' := by
  go_enter Tryd.func73, Tryd.ntmps73
  go_wp2
  all_goals (go_ret; exact ⟨ret_bool (by rw [Bool.eq_iff_iff]; simp [upperB]; omega), rfl⟩)

theorem letter_any (r : Int) (w : World) : Calls Tryd.prog 72 #[.int .i32 r] w fun e w' => e = .returned (.bool (letterB r)) ∧ w = w' := by
  by_cases h7 : r = 247
  · subst h7
    go_enter Tryd.func72, Tryd.ntmps72
    go_wp2_with (go_at_call 73; refine (upper_any _ _).mono ?_; rintro e w' ⟨rfl, rfl⟩; rw [show upperB 247 = false by decide])
    go_ret
    exact ⟨ret_bool (by decide), rfl⟩
  cases hu : upperB r
  · go_enter Tryd.func72, Tryd.ntmps72
    go_wp2_with (go_at_call 73; refine (upper_any _ _).mono ?_; rintro e w' ⟨rfl, rfl⟩; rw [hu])
    all_goals (go_ret; exact ⟨ret_bool (by rw [Bool.eq_iff_iff]; simp [letterB, hu, h7]; try omega), rfl⟩)
  · go_enter Tryd.func72, Tryd.ntmps72
    go_wp2_with (go_at_call 73; refine (upper_any _ _).mono ?_; rintro e w' ⟨rfl, rfl⟩; rw [hu])
    all_goals (go_ret; exact ⟨ret_bool (by simp [letterB, hu]), rfl⟩)

theorem small_any (r : Int) (w : World) : Calls Tryd.prog 52 #[.int .i32 r] w fun e w' => e = .returned (.bool (smallB r)) ∧ w = w' := by
  cases hl : letterB r
  all_goals
    go_enter Tryd.func52, Tryd.ntmps52
    go_wp2_with (first | (go_at_call 72; refine (letter_any _ _).mono ?_; rintro e w' ⟨rfl, rfl⟩; rw [hl]) | (go_at_call 73; refine (upper_any _ _).mono ?_; rintro e w' ⟨rfl, rfl⟩))
    all_goals (go_ret; exact ⟨ret_bool (by rw [Bool.eq_iff_iff]; simp [smallB, hl]; try first | omega | (cases upperB r <;> simp <;> omega)), rfl⟩)
end Go.Proofs.YtmonfmmcgfmeeaaDoor.Nm
