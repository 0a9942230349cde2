/- Where a name is, which slot is free, whether heads and changes are few and short: the printed contracts in plain words. -/
import Derived.Test.YtmonfmmcgfmeeaaGreatDoorPl
import Derived.Test.YtmonfmmcgfmeeaaGreatDoorLfMath
import Derived.Lib.Strings
namespace Go.Proofs.YtmonfmmcgfmeeaaGreatDoor.Lf
open Go.RowKit Go.Proofs.YtmonfmmcgfmeeaaGreatDoor.Pl Go.Proofs.YtmonfmmcgfmeeaaGreatDoorW.PrintWords
set_option linter.unusedVariables false
set_option linter.unusedSimpArgs false

theorem toList_inj {a b : ByteArray} (h : a.toList = b.toList) : a = b := by
  rw [Lib.toList_data, Lib.toList_data] at h
  cases a; cases b
  simp only [ByteArray.mk.injEq]
  exact Array.toList_inj.1 h
theorem toList_nil {a : ByteArray} : a.toList = [] ↔ a.size = 0 := by
  rw [Lib.toList_data]
  cases a with | mk d => simp [ByteArray.size]
theorem size0 {a : ByteArray} (h : a.size = 0) : a = ⟨#[]⟩ := by
  cases a with | mk d => simp [ByteArray.size] at h; subst h; rfl

def idxI : Option Nat → Int
  | none => -1
  | some k => k

theorem wrap_in (n : Int) (h : -9223372036854775808 ≤ n ∧ n ≤ 9223372036854775807) : wrap64 n = n := by unfold wrap64; omega
theorem rdOf_drop {α : Type} (d : α) (l : List α) (i : Nat) (x : α) (r : List α) (h : l.drop i = x :: r) : rdOf d l (i : Int) = x := by
  have h1 : (l.drop i)[0]? = some x := by rw [h]; rfl
  rw [List.getElem?_drop, Nat.add_zero] at h1
  simp [rdOf, List.getD_eq_getElem?_getD, h1]

theorem index_from (l : List ByteArray) (s : ByteArray) (hl : l.length ≤ 9223372036854775807) : ∀ (r : List ByteArray) (i : Nat), l.drop i = r →
    slices_Index_string_string.l0 (r.length + 1) l s (l.length : Int) (i : Int) = some (match r.findIdx? (fun h => decide (h = s)) with | none => -1 | some j => ((i + j : Nat) : Int)) := by
  intro r
  induction r with
  | nil =>
    intro i h
    have : l.length ≤ i := List.drop_eq_nil_iff.1 h
    unfold slices_Index_string_string.l0
    rw [if_neg (by omega)]
    rfl
  | cons x r ih =>
    intro i h
    have hi : i < l.length := by
      rcases Nat.lt_or_ge i l.length with h1 | h1
      · exact h1
      · rw [List.drop_of_length_le h1] at h; cases h
    have hr : l.drop (i + 1) = r := by rw [← List.drop_drop, h]; rfl
    unfold slices_Index_string_string.l0
    rw [if_pos (by omega), if_pos (by omega), if_pos (by omega), rdOf_drop _ _ _ _ _ h, List.findIdx?_cons]
    by_cases hx : x = s
    · subst hx
      rw [if_pos rfl]
      simp
    · rw [if_neg (fun e => hx (toList_inj e.symm)), wrap_in _ (by omega)]
      have := ih (i + 1) hr
      rw [show ((i : Int) + 1) = ((i + 1 : Nat) : Int) by omega]
      rw [List.length_cons, this]
      simp only [hx, decide_false, Bool.false_eq_true, if_false]
      cases hf : List.findIdx? (fun h => decide (h = s)) r with
      | none => simp
      | some j =>
        show some ((i + 1 + j : Nat) : Int) = some ((i + (j + 1) : Nat) : Int)
        rw [Nat.add_right_comm i 1 j, Nat.add_assoc]

theorem index_f (l : List ByteArray) (s : ByteArray) (hl : l.length ≤ 9223372036854775807) : slices_Index_string_string.f (l.length + 1) l s = some (idxI (l.findIdx? (fun h => decide (h = s)))) := by
  unfold slices_Index_string_string.f
  have := index_from l s hl l 0 rfl
  simp only [Nat.zero_add] at this
  exact this

theorem find_any (A : Option Addr) (c : Nat) (l : List ByteArray) (s : ByteArray) (w : World) (hr : Kd.C Kd.string w A l.length l) (hc : l.length ≤ c) :
    Calls Tryz.prog 6 #[.slice A l.length c, .string s] w fun e w' => e = .returned (.int .i64 (idxI (findI l s))) ∧ Drawn0 w w' := by
  refine leaf_Find.calls (l.length + 1) A c l s _ w hr hc ?_
  unfold leaf_Find.f findI
  by_cases h : s.size = 0
  · rw [if_pos (toList_nil.2 h), if_pos h]; rfl
  · rw [if_neg (fun e => h (toList_nil.1 e)), if_neg h, index_f l s hr.2.1]; rfl

theorem free_any (A : Option Addr) (c : Nat) (l : List ByteArray) (w : World) (hr : Kd.C Kd.string w A l.length l) (hc : l.length ≤ c) :
    Calls Tryz.prog 8 #[.slice A l.length c] w fun e w' => e = .returned (.int .i64 (idxI (freeI l))) ∧ Drawn0 w w' := by
  refine leaf_Free.calls (l.length + 1) A c l _ w hr hc ?_
  unfold leaf_Free.f freeI
  rw [index_f l _ hr.2.1]
  have : (fun h : ByteArray => decide (h = ⟨#[]⟩)) = fun h => decide (h.size = 0) := by
    funext h
    exact decide_eq_decide.2 ⟨fun e => by rw [e]; rfl, size0⟩
  rw [this]; rfl

/-! Light -/
def lightB (hs : List ByteArray) (l : List S35) : Bool := decide (hs.length ≤ 70) && (decide (l.length ≤ 40) && (hs.all (fun h => decide (h.size ≤ 100)) && l.all (fun c => decide (c.f0.size ≤ 100) && decide (c.f1.length ≤ 400))))

theorem light_l1 (l : List S35) (hl : l.length ≤ 40) : ∀ (r : List S35) (i : Nat), l.drop i = r → oubliettelaw31_Light.l1 (r.length + 1) l (i : Int) = some (r.all (fun c => decide (c.f0.size ≤ 100) && decide (c.f1.length ≤ 400))) := by
  intro r
  induction r with
  | nil =>
    intro i h
    have : l.length ≤ i := List.drop_eq_nil_iff.1 h
    unfold oubliettelaw31_Light.l1
    rw [if_neg (by omega)]
    rfl
  | cons x r ih =>
    intro i h
    have hi : i < l.length := by
      rcases Nat.lt_or_ge i l.length with h1 | h1
      · exact h1
      · rw [List.drop_of_length_le h1] at h; cases h
    have hr : l.drop (i + 1) = r := by rw [← List.drop_drop, h]; rfl
    have hx : rd_T35 l (i : Int) = x := rdOf_drop z35 _ _ _ _ h
    unfold oubliettelaw31_Light.l1
    rw [if_pos (by omega), if_pos (by omega), hx, List.all_cons]
    by_cases h1 : x.f0.size ≤ 100
    · by_cases h2 : x.f1.length ≤ 400
      · rw [if_neg (by omega), if_neg (by omega), wrap_in _ (by omega), show ((i : Int) + 1) = ((i + 1 : Nat) : Int) by omega, List.length_cons, ih (i + 1) hr]
        simp [h1, h2]
      · rw [if_neg (by omega), if_pos (by omega)]
        simp [h1, h2]
    · rw [if_pos (by omega)]
      simp [h1]

theorem light_l0 (hs : List ByteArray) (l : List S35) (hh : hs.length ≤ 70) (hl : l.length ≤ 40) : ∀ (r : List ByteArray) (i : Nat), hs.drop i = r → oubliettelaw31_Light.l0 (r.length + 1 + (l.length + 1)) hs l (i : Int) = some (r.all (fun h => decide (h.size ≤ 100)) && l.all (fun c => decide (c.f0.size ≤ 100) && decide (c.f1.length ≤ 400))) := by
  intro r
  induction r with
  | nil =>
    intro i h
    have : hs.length ≤ i := List.drop_eq_nil_iff.1 h
    rw [List.length_nil, Nat.zero_add, Nat.add_comm]
    unfold oubliettelaw31_Light.l0
    rw [if_neg (by omega)]
    have := light_l1 l hl l 0 rfl
    rw [show ((0 : Nat) : Int) = 0 from rfl] at this
    rw [this]; simp
  | cons x r ih =>
    intro i h
    have hi : i < hs.length := by
      rcases Nat.lt_or_ge i hs.length with h1 | h1
      · exact h1
      · rw [List.drop_of_length_le h1] at h; cases h
    have hr : hs.drop (i + 1) = r := by rw [← List.drop_drop, h]; rfl
    have hx : rdOf ByteArray.empty hs (i : Int) = x := rdOf_drop _ _ _ _ _ h
    rw [List.length_cons, show r.length + 1 + 1 + (l.length + 1) = (r.length + 1 + (l.length + 1)) + 1 by omega]
    unfold oubliettelaw31_Light.l0
    rw [if_pos (by omega), if_pos (by omega), hx, List.all_cons]
    by_cases h1 : x.size ≤ 100
    · rw [if_neg (by omega), wrap_in _ (by omega), show ((i : Int) + 1) = ((i + 1 : Nat) : Int) by omega, ih (i + 1) hr]
      simp [h1]
    · rw [if_pos (by omega)]
      simp [h1]

theorem j0_eq (k : Nat) (hs : List ByteArray) (l : List S35) (b : Bool) : oubliettelaw31_Light.j0 (k + 1) hs l b = if b = true then (some false) else (oubliettelaw31_Light.l0 k hs l 0) := by
  unfold oubliettelaw31_Light.j0; rfl
theorem light_f (hs : List ByteArray) (l : List S35) : oubliettelaw31_Light.f (hs.length + 1 + (l.length + 1) + 1) hs l = some (lightB hs l) := by
  unfold oubliettelaw31_Light.f lightB
  by_cases h1 : hs.length ≤ 70
  · rw [if_neg (by omega)]
    rw [j0_eq]
    by_cases h2 : l.length ≤ 40
    · rw [if_neg (by simp; omega)]
      have := light_l0 hs l h1 h2 hs 0 rfl
      rw [show ((0 : Nat) : Int) = 0 from rfl] at this
      rw [this]; simp [h1, h2]
    · rw [if_pos (by simp; omega)]
      simp [h2]
  · rw [if_pos (by omega)]
    rw [j0_eq]
    rw [if_pos rfl]
    simp [h1]

theorem light_any (A : Option Addr) (c : Nat) (hs : List ByteArray) (B : Option Addr) (d : Nat) (l : List S35) (w : World) (hr0 : Kd.C Kd.string w A hs.length hs) (hc0 : hs.length ≤ c) (hr1 : Kd.C k35 w B l.length l) (hc1 : l.length ≤ d) :
    Calls Tryz.prog 4 #[.slice A hs.length c, .slice B l.length d] w fun e w' => e = .returned (.bool (lightB hs l)) ∧ Drawn0 w w' :=
  oubliettelaw31_Light.calls _ A c hs B d l _ w hr0 hc0 hr1 hc1 (light_f hs l)
end Go.Proofs.YtmonfmmcgfmeeaaGreatDoor.Lf
