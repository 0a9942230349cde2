/- Which texts are parts of names: the program's Part, and its count of runes. -/
import Derived.Test.YtmonfmmcgfmeeaaDoorNm1
import Derived.Laws.RangeString
import Derived.Laws.RangeAny
import Derived.Laws.Runes
import Derived.Lib.RuneCount
import Derived.LoopTactic
namespace Go.Proofs.YtmonfmmcgfmeeaaDoor.Nm
open Go.RowKit Go.Proofs.YtmonfmmcgfmeeaaDoorW.PrintWords
set_option linter.unusedVariables false
set_option linter.unusedSimpArgs false

/-- The runes of a text from a place on. -/
def runesFrom (s : ByteArray) : Nat → Nat → List Int
  | 0, _ => []
  | fuel + 1, pos => if pos < s.size then ((Utf8.decode s pos).1 : Int) :: runesFrom s fuel (pos + (Utf8.decode s pos).2) else []
def runesOf (s : ByteArray) : List Int := runesFrom s s.size 0
def partB (s : ByteArray) : Bool := (runesOf s).all smallB && (decide (1 ≤ (runesOf s).length) && decide ((runesOf s).length ≤ 8))

theorem runesFrom_end (s : ByteArray) (b pos : Nat) (h : ¬ pos < s.size) : runesFrom s b pos = [] := by
  cases b with
  | zero => rfl
  | succ b => simp [runesFrom, h]
theorem runesFrom_le (s : ByteArray) : ∀ b pos, (runesFrom s b pos).length ≤ b
  | 0, _ => by simp [runesFrom]
  | b + 1, pos => by
    simp only [runesFrom]
    split
    · have := runesFrom_le s b (pos + (Utf8.decode s pos).2)
      simp; omega
    · simp

set_option maxHeartbeats 4000000 in
set_option maxRecDepth 100000 in
theorem part_any (s : ByteArray) (w : World) (hs : s.size ≤ 140737488351232) : Calls Tryd.prog 34 #[.string s] w fun e w' => e = .returned (.bool (partB s)) ∧ Below w.heap.size w w' := by
  obtain ⟨L, hL⟩ : ∃ L, L = runesOf s := ⟨_, rfl⟩
  have HLL := Aside0.mk hL
  have HLN := Aside0.mk (show L.length ≤ s.size by rw [hL]; exact runesFrom_le s _ _)
  have HP : partB s = (L.all smallB && (decide (1 ≤ L.length) && decide (L.length ≤ 8))) := by rw [hL]; rfl
  rw [HP]
  obtain ⟨R, hR⟩ : ∃ R, R = (L.all smallB && (decide (1 ≤ L.length) && decide (L.length ≤ 8))) := ⟨_, rfl⟩
  rw [← hR]
  have HR := Aside0.mk hR
  clear HP hL hR
  go_enter Tryd.func34, Tryd.ntmps34
  go_wp2
  go_loopw [3] (fun v3 wr => ∃ (pos b : Nat) (pre : List Int), wr = w.iter s pos ∧ v3 = .int .i64 (pre.length : Nat) ∧ Aside0 (L = pre ++ runesFrom s b pos) ∧ Aside0 (pre.all smallB = true) ∧ Aside0 (s.size ≤ pos + b)) (fun _ wr => s.size - wr.iterPos w.heap.size)
  case atStart => exact ⟨0, s.size, [], rfl, rfl, HLL, ⟨rfl⟩, ⟨by omega⟩⟩
  case round =>
    obtain ⟨pos, b, pre, rfl, rfl, HL, HA, HB⟩ := hrel
    have hbw : Below w.heap.size w (w.iter s pos) := (Below.refl _ _).alloc (Nat.le_refl _) _
    have HBW := Aside0.mk hbw
    clear hbw
    by_cases hp : pos < s.size
    · have hnx : ∀ ty, (Instr.next (.pointer (some ⟨w.heap.size, 0, none⟩)) true ty).run Tryd.prog (w.iter s pos) = _ := fun ty => run_next_any w s pos ty hp
      have hwd := Lib.decode_width_pos s pos hp
      obtain ⟨b, rfl⟩ : ∃ c, b = c + 1 := ⟨b - 1, by have := HB.out; omega⟩
      have hL2 : L = (pre ++ [((Utf8.decode s pos).1 : Int)]) ++ runesFrom s b (pos + (Utf8.decode s pos).2) := by
        have := HL.out
        simp only [runesFrom] at this
        rw [if_pos hp] at this
        rw [this]; simp
      have HL2 := Aside0.mk hL2
      have hpl : pre.length ≤ s.size := by have := HLN.out; rw [hL2] at this; simp at this; omega
      clear hL2
      cases hsm : smallB ((Utf8.decode s pos).1 : Int)
      · have hfin := Aside0.mk (show R = false by rw [HR.out, HL2.out]; simp [hsm])
        go_wp2_with (go_at_call 52; refine (small_any _ _).mono ?_; rintro e w' ⟨rfl, rfl⟩; rw [hsm])
        go_ret
        exact ⟨ret_bool hfin.out.symm, (Below.refl _ _).alloc (Nat.le_refl _) _⟩
      · go_wp2_with (go_at_call 52; refine (small_any _ _).mono ?_; rintro e w' ⟨rfl, rfl⟩; rw [hsm])
        go_roundw
        case rel =>
          refine ⟨pos + (Utf8.decode s pos).2, b, pre ++ [((Utf8.decode s pos).1 : Int)], rfl, by simp, HL2, ⟨?_⟩, ⟨by have := HB.out; omega⟩⟩
          rw [List.all_append, HA.out]; simp [hsm]
        case measure => simp; omega
    · have hnx : ∀ ty, (Instr.next (.pointer (some ⟨w.heap.size, 0, none⟩)) true ty).run Tryd.prog (w.iter s pos) = _ := fun ty => run_next_end w s pos ty hp
      have hLp : L = pre := by have := HL.out; rwa [runesFrom_end s b pos hp, List.append_nil] at this
      subst hLp
      go_wp2
      all_goals (go_ret; exact ⟨ret_bool (by rw [HR.out, HA.out]; rw [Bool.eq_iff_iff]; simp; try omega), HBW.out⟩)
end Go.Proofs.YtmonfmmcgfmeeaaDoor.Nm
