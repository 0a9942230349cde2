/- How many heads there are, and whether two lists of texts are one: the printed functions' plain contracts. -/
import Derived.Test.YtmonfmmcgfmeeaaGreatDoorPm
import Derived.Test.YtmonfmmcgfmeeaaGreatDoorLf1
namespace Go.Proofs.YtmonfmmcgfmeeaaGreatDoor.Lf
open Go.RowKit Go.Proofs.YtmonfmmcgfmeeaaGreatDoor.Pl Go.Proofs.YtmonfmmcgfmeeaaGreatDoorW.PrintWords
set_option linter.unusedVariables false
set_option linter.unusedSimpArgs false

def usedI (l : List ByteArray) : Nat := (l.filter (fun x => decide (x.size ≠ 0))).length

theorem used_l0 (l : List ByteArray) (hl : l.length ≤ 1000000) : ∀ (r : List ByteArray) (i n : Nat), l.drop i = r → n ≤ i →
    leaf_Used.l0 (r.length + 1) (n : Int) l (l.length : Int) (i : Int) = some ((n + usedI r : Nat) : Int) := by
  intro r
  induction r with
  | nil =>
    intro i n h hn
    have hi : l.length ≤ i := by simpa using h
    unfold leaf_Used.l0
    rw [if_neg (by omega)]
    simp [usedI]
  | cons x r ih =>
    intro i n h hn
    have hi : i < l.length := by
      rcases Nat.lt_or_ge i l.length with h1 | h1
      · exact h1
      · rw [List.drop_of_length_le h1] at h; cases h
    have hr : l.drop (i + 1) = r := by rw [← List.drop_drop, h]; rfl
    have hx : rdOf ByteArray.empty l (i : Int) = x := rdOf_drop _ _ _ _ _ h
    unfold leaf_Used.l0
    rw [if_pos (by omega), if_pos (by omega), if_pos (by omega), hx, wrap_in ((i : Int) + 1) (by omega), show ((i : Int) + 1) = ((i + 1 : Nat) : Int) by omega, List.length_cons]
    by_cases h1 : x.size = 0
    · rw [if_pos (toList_nil.2 h1), ih (i + 1) n hr (by omega)]
      unfold usedI
      rw [List.filter_cons, if_neg (by simpa using h1)]
    · rw [if_neg (fun e => h1 (toList_nil.1 e)), wrap_in ((n : Int) + 1) (by omega), show ((n : Int) + 1) = ((n + 1 : Nat) : Int) by omega, ih (i + 1) (n + 1) hr (by omega)]
      unfold usedI
      rw [List.filter_cons, if_pos (by simpa using h1), List.length_cons, show n + 1 + (List.filter (fun x => decide (x.size ≠ 0)) r).length = n + ((List.filter (fun x => decide (x.size ≠ 0)) r).length + 1) by omega]

theorem used_any (A : Option Addr) (c : Nat) (l : List ByteArray) (w : World) (hl : l.length ≤ 1000000) (hr : Kd.C Kd.string w A l.length l) (hc : l.length ≤ c) :
    Calls Tryz.prog 10 #[.slice A l.length c] w fun e w' => e = .returned (.int .i64 (usedI l : Nat)) ∧ Drawn0 w w' :=
  leaf_Used.calls (l.length + 1) A c l _ w hr hc (by
    have := used_l0 l hl l 0 0 rfl (Nat.le_refl _)
    rw [Nat.zero_add] at this
    exact this)

theorem words_l0 (a b : List ByteArray) (hl : a.length ≤ 1000000) (hab : a.length = b.length) : ∀ (r : List ByteArray) (i : Nat), a.drop i = r →
    oublietteref01_Words.l0 (r.length + 1) a b (i : Int) = some (decide (a.drop i = b.drop i)) := by
  intro r
  induction r with
  | nil =>
    intro i h
    have hi : a.length ≤ i := by simpa using h
    unfold oublietteref01_Words.l0
    rw [if_neg (by omega), List.drop_of_length_le hi, List.drop_of_length_le (by omega)]
    simp
  | cons x r ih =>
    intro i h
    have hi : i < a.length := by
      rcases Nat.lt_or_ge i a.length with h1 | h1
      · exact h1
      · rw [List.drop_of_length_le h1] at h; cases h
    have hr : a.drop (i + 1) = r := by rw [← List.drop_drop, h]; rfl
    have hx : rdOf ByteArray.empty a (i : Int) = x := rdOf_drop _ _ _ _ _ h
    have hb : b.drop i = b[i] :: b.drop (i + 1) := List.drop_eq_getElem_cons (by omega)
    have hy : rdOf ByteArray.empty b (i : Int) = b[i] := rdOf_drop _ _ _ _ _ hb
    unfold oublietteref01_Words.l0
    rw [if_pos (by omega), if_pos (by omega), if_pos (by omega), hx, hy, wrap_in ((i : Int) + 1) (by omega), show ((i : Int) + 1) = ((i + 1 : Nat) : Int) by omega, List.length_cons, ih (i + 1) hr, h, hb, hr]
    generalize b[i] = y
    generalize b.drop (i + 1) = z
    by_cases h1 : x = y
    · rw [if_pos (by rw [h1])]
      simp [h1]
    · rw [if_neg (fun e => h1 (toList_inj e))]
      simp [h1]

theorem words_any (A : Option Addr) (c : Nat) (a : List ByteArray) (B : Option Addr) (d : Nat) (b : List ByteArray) (w : World) (hl : a.length ≤ 1000000) (hr : Kd.C Kd.string w A a.length a) (hc : a.length ≤ c) (hr1 : Kd.C Kd.string w B b.length b) (hc1 : b.length ≤ d) :
    Calls Tryz.prog 11 #[.slice A a.length c, .slice B b.length d] w fun e w' => e = .returned (.bool (decide (a = b))) ∧ Drawn0 w w' :=
  oublietteref01_Words.calls (a.length + 1) A c a B d b _ w hr hc hr1 hc1 (by
    unfold oublietteref01_Words.f
    by_cases h : a.length = b.length
    · rw [if_pos (by omega)]
      have := words_l0 a b hl h a 0 rfl
      simp only [List.drop_zero] at this
      exact this
    · rw [if_neg (by omega)]
      congr 1
      rw [eq_comm, decide_eq_false_iff_not]
      rintro rfl
      exact h rfl)
end Go.Proofs.YtmonfmmcgfmeeaaGreatDoor.Lf
