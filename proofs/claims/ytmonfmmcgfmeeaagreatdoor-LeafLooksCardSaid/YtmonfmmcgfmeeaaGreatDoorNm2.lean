/- Which runes are small letters or digits: the program's three functions on runes. Which texts are parts of names: the program's Part, and its count of runes. -/
import Derived.Test.YtmonfmmcgfmeeaaGreatDoorProg
import Derived.Test.YtmonfmmcgfmeeaaGreatDoorWWords
import Derived.OwnWalk
import Derived.Tactics
import Derived.WalkKit
import Derived.KernelRfl
import Derived.WalkLawsBesides
import Derived.Laws.RangeString
import Derived.Laws.RangeAny
import Derived.Laws.Runes
import Derived.Lib.RuneCount
import Derived.LoopTactic
namespace Go.Proofs.YtmonfmmcgfmeeaaGreatDoor.Nm
open Go.RowKit Go.Proofs.YtmonfmmcgfmeeaaGreatDoorW.PrintWords
set_option linter.unusedVariables false
set_option linter.unusedSimpArgs false

def upperB (r : Int) : Bool := (decide (65 ≤ r) && decide (r ≤ 90)) || (decide (192 ≤ r) && decide (r ≤ 222) && decide (r ≠ 215))
def letterB (r : Int) : Bool := upperB r || (decide (r ≠ 247) && ((decide (97 ≤ r) && decide (r ≤ 122)) || (decide (223 ≤ r) && decide (r ≤ 255))))
def smallB (r : Int) : Bool := (decide (48 ≤ r) && decide (r ≤ 57)) || (letterB r && !upperB r)

theorem ret_bool {a b : Bool} (h : a = b) : Ending.returned (.bool a) = Ending.returned (.bool b) := by rw [h]

theorem upper_any (r : Int) (w : World) : Calls Tryz.prog 84 #[.int .i32 r] w fun e w' => e = .returned (.bool (upperB r)) ∧ w = w' := by
  go_enter Tryz.func84, Tryz.ntmps84
  go_wp2
  all_goals (go_ret; exact ⟨ret_bool (by rw [Bool.eq_iff_iff]; simp [upperB]; omega), rfl⟩)

theorem letter_any (r : Int) (w : World) : Calls Tryz.prog 83 #[.int .i32 r] w fun e w' => e = .returned (.bool (letterB r)) ∧ w = w' := by
  by_cases h7 : r = 247
  · subst h7
    go_enter Tryz.func83, Tryz.ntmps83
    go_wp2_with (go_at_call 84; refine (upper_any _ _).mono ?_; rintro e w' ⟨rfl, rfl⟩; rw [show upperB 247 = false by decide])
    go_ret
    exact ⟨ret_bool (by decide), rfl⟩
  cases hu : upperB r
  · go_enter Tryz.func83, Tryz.ntmps83
    go_wp2_with (go_at_call 84; refine (upper_any _ _).mono ?_; rintro e w' ⟨rfl, rfl⟩; rw [hu])
    all_goals (go_ret; exact ⟨ret_bool (by rw [Bool.eq_iff_iff]; simp [letterB, hu, h7]; try omega), rfl⟩)
  · go_enter Tryz.func83, Tryz.ntmps83
    go_wp2_with (go_at_call 84; refine (upper_any _ _).mono ?_; rintro e w' ⟨rfl, rfl⟩; rw [hu])
    all_goals (go_ret; exact ⟨ret_bool (by simp [letterB, hu]), rfl⟩)

theorem small_any (r : Int) (w : World) : Calls Tryz.prog 65 #[.int .i32 r] w fun e w' => e = .returned (.bool (smallB r)) ∧ w = w' := by
  cases hl : letterB r
  all_goals
    go_enter Tryz.func65, Tryz.ntmps65
    go_wp2_with (first | (go_at_call 83; refine (letter_any _ _).mono ?_; rintro e w' ⟨rfl, rfl⟩; rw [hl]) | (go_at_call 84; refine (upper_any _ _).mono ?_; rintro e w' ⟨rfl, rfl⟩))
    all_goals (go_ret; exact ⟨ret_bool (by rw [Bool.eq_iff_iff]; simp [smallB, hl]; try first | omega | (cases upperB r <;> simp <;> omega)), rfl⟩)
end Go.Proofs.YtmonfmmcgfmeeaaGreatDoor.Nm

namespace Go.Proofs.YtmonfmmcgfmeeaaGreatDoor.Nm
open Go.RowKit Go.Proofs.YtmonfmmcgfmeeaaGreatDoorW.PrintWords
set_option linter.unusedVariables false
set_option linter.unusedSimpArgs false

/-- The runes of a text from a place on. -/
def runesFrom (s : ByteArray) : Nat → Nat → List Int
  | 0, _ => []
  | fuel + 1, pos => if pos < s.size then ((Utf8.decode s pos).1 : Int) :: runesFrom s fuel (pos + (Utf8.decode s pos).2) else []
def runesOf (s : ByteArray) : List Int := runesFrom s s.size 0
def partB (s : ByteArray) : Bool := (runesOf s).all smallB && (decide (1 ≤ (runesOf s).length) && decide ((runesOf s).length ≤ 8))

theorem runesFrom_end (s : ByteArray) (b pos : Nat) (h : ¬ pos < s.size) : runesFrom s b pos = [] := by
  cases b with
  | zero => rfl
  | succ b => simp [runesFrom, h]
theorem runesFrom_le (s : ByteArray) : ∀ b pos, (runesFrom s b pos).length ≤ b
  | 0, _ => by simp [runesFrom]
  | b + 1, pos => by
    simp only [runesFrom]
    split
    · have := runesFrom_le s b (pos + (Utf8.decode s pos).2)
      simp; omega
    · simp

set_option maxHeartbeats 4000000 in
set_option maxRecDepth 100000 in
theorem part_any (s : ByteArray) (w : World) (hs : s.size ≤ 140737488351232) : Calls Tryz.prog 49 #[.string s] w fun e w' => e = .returned (.bool (partB s)) ∧ Below w.heap.size w w' := by
  obtain ⟨L, hL⟩ : ∃ L, L = runesOf s := ⟨_, rfl⟩
  have HLL := Aside0.mk hL
  have HLN := Aside0.mk (show L.length ≤ s.size by rw [hL]; exact runesFrom_le s _ _)
  have HP : partB s = (L.all smallB && (decide (1 ≤ L.length) && decide (L.length ≤ 8))) := by rw [hL]; rfl
  rw [HP]
  obtain ⟨R, hR⟩ : ∃ R, R = (L.all smallB && (decide (1 ≤ L.length) && decide (L.length ≤ 8))) := ⟨_, rfl⟩
  rw [← hR]
  have HR := Aside0.mk hR
  clear HP hL hR
  go_enter Tryz.func49, Tryz.ntmps49
  go_wp2
  go_loopw [3] (fun v3 wr => ∃ (pos b : Nat) (pre : List Int), wr = w.iter s pos ∧ v3 = .int .i64 (pre.length : Nat) ∧ Aside0 (L = pre ++ runesFrom s b pos) ∧ Aside0 (pre.all smallB = true) ∧ Aside0 (s.size ≤ pos + b)) (fun _ wr => s.size - wr.iterPos w.heap.size)
  case atStart => exact ⟨0, s.size, [], rfl, rfl, HLL, ⟨rfl⟩, ⟨by omega⟩⟩
  case round =>
    obtain ⟨pos, b, pre, rfl, rfl, HL, HA, HB⟩ := hrel
    have hbw : Below w.heap.size w (w.iter s pos) := (Below.refl _ _).alloc (Nat.le_refl _) _
    have HBW := Aside0.mk hbw
    clear hbw
    by_cases hp : pos < s.size
    · have hnx : ∀ ty, (Instr.next (.pointer (some ⟨w.heap.size, 0, none⟩)) true ty).run Tryz.prog (w.iter s pos) = _ := fun ty => run_next_any w s pos ty hp
      have hwd := Lib.decode_width_pos s pos hp
      obtain ⟨b, rfl⟩ : ∃ c, b = c + 1 := ⟨b - 1, by have := HB.out; omega⟩
      have hL2 : L = (pre ++ [((Utf8.decode s pos).1 : Int)]) ++ runesFrom s b (pos + (Utf8.decode s pos).2) := by
        have := HL.out
        simp only [runesFrom] at this
        rw [if_pos hp] at this
        rw [this]; simp
      have HL2 := Aside0.mk hL2
      have hpl : pre.length ≤ s.size := by have := HLN.out; rw [hL2] at this; simp at this; omega
      clear hL2
      cases hsm : smallB ((Utf8.decode s pos).1 : Int)
      · have hfin := Aside0.mk (show R = false by rw [HR.out, HL2.out]; simp [hsm])
        go_wp2_with (go_at_call 65; refine (small_any _ _).mono ?_; rintro e w' ⟨rfl, rfl⟩; rw [hsm])
        go_ret
        exact ⟨ret_bool hfin.out.symm, (Below.refl _ _).alloc (Nat.le_refl _) _⟩
      · go_wp2_with (go_at_call 65; refine (small_any _ _).mono ?_; rintro e w' ⟨rfl, rfl⟩; rw [hsm])
        go_roundw
        case rel =>
          refine ⟨pos + (Utf8.decode s pos).2, b, pre ++ [((Utf8.decode s pos).1 : Int)], rfl, by simp, HL2, ⟨?_⟩, ⟨by have := HB.out; omega⟩⟩
          rw [List.all_append, HA.out]; simp [hsm]
        case measure => simp; omega
    · have hnx : ∀ ty, (Instr.next (.pointer (some ⟨w.heap.size, 0, none⟩)) true ty).run Tryz.prog (w.iter s pos) = _ := fun ty => run_next_end w s pos ty hp
      have hLp : L = pre := by have := HL.out; rwa [runesFrom_end s b pos hp, List.append_nil] at this
      subst hLp
      go_wp2
      all_goals (go_ret; exact ⟨ret_bool (by rw [HR.out, HA.out]; rw [Bool.eq_iff_iff]; simp; try omega), HBW.out⟩)
end Go.Proofs.YtmonfmmcgfmeeaaGreatDoor.Nm
