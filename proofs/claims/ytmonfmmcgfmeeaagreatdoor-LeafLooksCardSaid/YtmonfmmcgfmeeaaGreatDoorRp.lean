/- The reference's Find, Free, runes, parts and names: each answers as the program's words do. The reference's runes, parts and right names: each answers as the program's words do. The reference's parts, right names, their order, and all names: each answers as the program's words do. The reference's order of heads and its names: each answers as the program's words do. -/
import Derived.Test.YtmonfmmcgfmeeaaGreatDoorPq2
import Derived.Lib.TrimAscii
import Derived.Lib.MapLaws
import Derived.Lib.TrimUEq
namespace Go.Proofs.YtmonfmmcgfmeeaaGreatDoor.Lf
open Go.RowKit Go.Proofs.YtmonfmmcgfmeeaaGreatDoor.Pl Go.Proofs.YtmonfmmcgfmeeaaGreatDoorW.PrintWords Go.Proofs.YtmonfmmcgfmeeaaGreatDoor.Tc
set_option linter.unusedVariables false
set_option linter.unusedSimpArgs false

/-! ### Find, Free -/
theorem rfind_from (l : List ByteArray) (s : ByteArray) (hl : l.length ≤ 1000000) (h0 : s.size ≠ 0) : ∀ (r : List ByteArray) (i : Nat), l.drop i = r →
    oublietteref31_Find.l0 (r.length + 1) l s (i : Int) = some (match r.findIdx? (fun h => decide (h = s)) with | none => -1 | some j => ((i + j : Nat) : Int)) := by
  intro r
  induction r with
  | nil =>
    intro i h
    have : l.length ≤ i := List.drop_eq_nil_iff.1 h
    unfold oublietteref31_Find.l0
    rw [if_neg (by omega)]
    rfl
  | cons x r ih =>
    intro i h
    have hi : i < l.length := by
      rcases Nat.lt_or_ge i l.length with h1 | h1
      · exact h1
      · rw [List.drop_of_length_le h1] at h; cases h
    have hr : l.drop (i + 1) = r := by rw [← List.drop_drop, h]; rfl
    unfold oublietteref31_Find.l0
    rw [if_pos (by omega), if_neg (fun e => h0 (toList_nil.1 e)), if_pos (by omega), rdOf_drop _ _ _ _ _ h, List.findIdx?_cons]
    by_cases hx : x = s
    · subst hx
      rw [if_pos rfl]
      simp
    · rw [if_neg (fun e => hx (toList_inj e)), wrap_in _ (by omega)]
      have := ih (i + 1) hr
      rw [show ((i : Int) + 1) = ((i + 1 : Nat) : Int) by omega]
      rw [List.length_cons, this]
      simp only [hx, decide_false, Bool.false_eq_true, if_false]
      cases hf : List.findIdx? (fun h => decide (h = s)) r with
      | none => simp
      | some j =>
        show some ((i + 1 + j : Nat) : Int) = some ((i + (j + 1) : Nat) : Int)
        rw [Nat.add_right_comm i 1 j, Nat.add_assoc]
theorem rfind_none (l : List ByteArray) (s : ByteArray) (hl : l.length ≤ 1000000) (h0 : s.size = 0) : ∀ (r : List ByteArray) (i : Nat), l.drop i = r →
    oublietteref31_Find.l0 (r.length + 1) l s (i : Int) = some (-1) := by
  intro r
  induction r with
  | nil =>
    intro i h
    have : l.length ≤ i := List.drop_eq_nil_iff.1 h
    unfold oublietteref31_Find.l0
    rw [if_neg (by omega)]
  | cons x r ih =>
    intro i h
    have hi : i < l.length := by
      rcases Nat.lt_or_ge i l.length with h1 | h1
      · exact h1
      · rw [List.drop_of_length_le h1] at h; cases h
    have hr : l.drop (i + 1) = r := by rw [← List.drop_drop, h]; rfl
    unfold oublietteref31_Find.l0
    rw [if_pos (by omega), if_pos (toList_nil.2 h0), wrap_in _ (by omega)]
    have := ih (i + 1) hr
    rw [show ((i : Int) + 1) = ((i + 1 : Nat) : Int) by omega]
    rw [List.length_cons, this]
theorem rfind_f (l : List ByteArray) (s : ByteArray) (hl : l.length ≤ 1000000) : oublietteref31_Find.f (l.length + 1) l s = some (idxI (findI l s)) := by
  unfold oublietteref31_Find.f findI
  by_cases h0 : s.size = 0
  · rw [if_pos h0]
    exact rfind_none l s hl h0 l 0 rfl
  · rw [if_neg h0]
    have := rfind_from l s hl h0 l 0 rfl
    simp only [Nat.zero_add] at this
    exact this
theorem rfind_ev (l : List ByteArray) (s : ByteArray) (hl : l.length ≤ 1000000) : Ev (fun k => oublietteref31_Find.f k l s) (idxI (findI l s)) := Ev.of (oublietteref31_Find.mono l s) (rfind_f l s hl)

theorem rfree_from (l : List ByteArray) (hl : l.length ≤ 1000000) : ∀ (r : List ByteArray) (i : Nat), l.drop i = r →
    oublietteref31_Free.l0 (r.length + 1) l (i : Int) = some (match r.findIdx? (fun h => decide (h.size = 0)) with | none => -1 | some j => ((i + j : Nat) : Int)) := by
  intro r
  induction r with
  | nil =>
    intro i h
    have : l.length ≤ i := List.drop_eq_nil_iff.1 h
    unfold oublietteref31_Free.l0
    rw [if_neg (by omega)]
    rfl
  | cons x r ih =>
    intro i h
    have hi : i < l.length := by
      rcases Nat.lt_or_ge i l.length with h1 | h1
      · exact h1
      · rw [List.drop_of_length_le h1] at h; cases h
    have hr : l.drop (i + 1) = r := by rw [← List.drop_drop, h]; rfl
    unfold oublietteref31_Free.l0
    rw [if_pos (by omega), if_pos (by omega), rdOf_drop _ _ _ _ _ h, List.findIdx?_cons]
    by_cases hx : x.size = 0
    · rw [if_pos (toList_nil.2 hx), if_pos (decide_eq_true hx)]
      simp
    · rw [if_neg (fun e => hx (toList_nil.1 e)), wrap_in _ (by omega)]
      have := ih (i + 1) hr
      rw [show ((i : Int) + 1) = ((i + 1 : Nat) : Int) by omega]
      rw [List.length_cons, this, if_neg (by simpa using hx)]
      cases hf : List.findIdx? (fun h : ByteArray => decide (h.size = 0)) r with
      | none => simp
      | some j =>
        show some ((i + 1 + j : Nat) : Int) = some ((i + (j + 1) : Nat) : Int)
        rw [Nat.add_right_comm i 1 j, Nat.add_assoc]
theorem rfree_f (l : List ByteArray) (hl : l.length ≤ 1000000) : oublietteref31_Free.f (l.length + 1) l = some (idxI (freeI l)) := by
  unfold oublietteref31_Free.f freeI
  have := rfree_from l hl l 0 rfl
  simp only [Nat.zero_add] at this
  exact this

/-! ### Pieces -/
def spl : List UInt8 → List (List UInt8)
  | [] => [[]]
  | c :: r => if c = 46 then [] :: spl r else match spl r with | [] => [[c]] | h :: t => (c :: h) :: t
theorem spl_ne (l : List UInt8) : spl l ≠ [] := by
  cases l with
  | nil => simp [spl]
  | cons c r =>
    simp only [spl]
    split
    · simp
    · cases spl r <;> simp
theorem spl_no : ∀ (l : List UInt8), (∀ c ∈ l, c ≠ 46) → spl l = [l]
  | [], _ => rfl
  | c :: r, h => by
    simp only [spl]
    rw [if_neg (h c (by simp)), spl_no r (fun d hd => h d (List.mem_cons_of_mem _ hd))]
theorem spl_hit : ∀ (a b : List UInt8), (∀ c ∈ a, c ≠ 46) → spl (a ++ 46 :: b) = a :: spl b
  | [], b, _ => by simp [spl]
  | c :: r, b, h => by
    show spl (c :: (r ++ 46 :: b)) = _
    simp only [spl]
    rw [if_neg (h c (by simp)), spl_hit r b (fun d hd => h d (List.mem_cons_of_mem _ hd))]
theorem pieces_spl : ∀ (n : Nat) (s : ByteArray), s.size ≤ n → (Nm.pieces s).map (·.data.toList) = spl s.data.toList
  | n, s, hn => by
    rcases Nm.index_cases s with h | ⟨i, h⟩
    · rw [Nm.pieces_miss h]
      have hno := Lib.indexByte_none h
      rw [spl_no _ (fun c hc e => by
        obtain ⟨k, hk⟩ := List.getElem?_of_mem hc
        exact hno k (by rw [hk, e]))]
      rfl
    · obtain ⟨h1, h2⟩ := Nm.pieces_hit h
      rw [h1]
      cases n with
      | zero => omega
      | succ n =>
        obtain ⟨h3, h4⟩ := Lib.indexByte_some h
        have hs : s.data.toList.length = s.size := by simp
        have hi : i < s.data.toList.length := by omega
        have e1 : (s.extract 0 i).data.toList = s.data.toList.take i := by
          rw [ByteArray.data_extract, Array.toList_extract]; simp
        have e2 : (s.extract (i + 1) s.size).data.toList = s.data.toList.drop (i + 1) := by
          rw [ByteArray.data_extract, Array.toList_extract, List.extract_eq_take_drop, List.take_of_length_le (by simp)]
        rw [List.map_cons, pieces_spl n _ (by rw [ByteArray.size_extract]; omega), e1, e2]
        rw [List.getElem?_eq_getElem hi] at h3
        obtain h3 := Option.some.inj h3
        have hsp : s.data.toList = s.data.toList.take i ++ 46 :: s.data.toList.drop (i + 1) := by
          rw [← h3, ← List.drop_eq_getElem_cons hi, List.take_append_drop]
        conv => rhs; rw [hsp]
        rw [spl_hit]
        intro c hc e
        obtain ⟨k, hk⟩ := List.getElem?_of_mem hc
        have hki : k < i := by have := (List.getElem?_eq_some_iff.1 hk).1; simp at this; omega
        rw [List.getElem?_take_of_lt hki] at hk
        exact h4 k hki (by rw [hk, e])

theorem bt_drop (s : ByteArray) (i : Nat) (c : UInt8) (r : List UInt8) (h : s.data.toList.drop i = c :: r) : bt s (i : Int) = (c.toNat : Int) ∧ i < s.size := by
  have hi : i < s.size := by
    rcases Nat.lt_or_ge i s.size with h1 | h1
    · exact h1
    · rw [List.drop_of_length_le (by simpa using h1)] at h; cases h
  refine ⟨?_, hi⟩
  unfold bt
  rw [dif_pos (by simpa using hi)]
  have h1 : (s.data.toList.drop i)[0]? = some c := by rw [h]; rfl
  rw [List.getElem?_drop, Nat.add_zero, List.getElem?_eq_getElem (by simpa using hi)] at h1
  have := Option.some.inj h1
  simp only [Int.toNat_natCast]
  rw [← this]
  simp [ByteArray.getElem_eq_getElem_data]

theorem extract_one (s : ByteArray) (i : Nat) (c : UInt8) (r : List UInt8) (h : s.data.toList.drop i = c :: r) : s.extract i (i + 1) = ⟨#[c]⟩ := by
  have hi := (bt_drop s i c r h).2
  have : (s.extract i (i + 1)).data.toList = [c] := by
    rw [ByteArray.data_extract, Array.toList_extract, List.extract_eq_take_drop, h]
    simp
  have h2 : (s.extract i (i + 1)).data = #[c] := by rw [← Array.toList_inj, this]
  cases hx : s.extract i (i + 1) with | mk d => rw [hx] at h2; simp only at h2; rw [h2]

theorem toList_eq (d : ByteArray) : d = ⟨d.data.toList.toArray⟩ := by cases d; rfl
theorem ba_append (a b : ByteArray) : (a ++ b).data.toList = a.data.toList ++ b.data.toList := by
  rw [ByteArray.data_append, Array.toList_append]

theorem rpieces_from (s : ByteArray) (hs : s.size ≤ 1000000) : ∀ (r : List UInt8) (i : Nat) (done : List ByteArray) (cur : ByteArray), s.data.toList.drop i = r → done.length + cur.size ≤ i →
    oublietteref03_pieces.l0 (r.length + 1) s (done ++ [cur]) (i : Int) = some (done ++ (match spl r with | [] => [] | h :: t => (cur ++ ⟨h.toArray⟩) :: t.map (fun x => (⟨x.toArray⟩ : ByteArray)))) := by
  intro r
  induction r with
  | nil =>
    intro i done cur h hl
    have : s.size ≤ i := by simpa using List.drop_eq_nil_iff.1 h
    unfold oublietteref03_pieces.l0
    rw [if_neg (by omega)]
    simp [spl]
    cases cur; simp [ByteArray.ext_iff]
  | cons c r ih =>
    intro i done cur h hl
    obtain ⟨hb, hi⟩ := bt_drop s i c r h
    have hr : s.data.toList.drop (i + 1) = r := by rw [← List.drop_drop, h]; rfl
    have hw : wrap64 ((i : Int) + 1) = ((i + 1 : Nat) : Int) := by rw [wrap_in _ (by omega)]; omega
    unfold oublietteref03_pieces.l0
    rw [if_pos (by omega), if_pos (by omega), hb, List.length_cons, hw]
    simp only [spl]
    by_cases hc : c = 46
    · subst hc
      rw [if_pos (by decide), if_pos (by simp; omega), if_pos rfl]
      have := ih (i + 1) (done ++ [cur]) ⟨#[]⟩ hr (by have h0 : (⟨#[]⟩ : ByteArray).size = 0 := rfl; rw [h0]; simp; omega)
      rw [this]
      obtain ⟨q, t, e⟩ := List.exists_cons_of_ne_nil (spl_ne r)
      rw [e]
      simp [ByteArray.ext_iff]
    · have hcn : ¬ (c.toNat : Int) = 46 := by
        intro e
        apply hc
        rw [← UInt8.toNat_inj]
        show c.toNat = 46
        omega
      have hd : ((done ++ [cur]).length : Int) - 1 = (done.length : Int) := by simp
      rw [if_neg hcn, if_neg hc, hd, wrap_in (done.length : Int) (by omega), if_pos (by omega), if_pos (by simp; omega), if_pos (by omega), if_pos (by omega)]
      have hrd : rdOf ByteArray.empty (done ++ [cur]) (done.length : Int) = cur := by
        rw [rdOf, Int.toNat_natCast, List.getD_eq_getElem?_getD, List.getElem?_append_right (Nat.le_refl _)]; simp
      rw [hrd, Int.toNat_natCast, Int.toNat_natCast, Int.toNat_natCast, extract_one s i c r h]
      rw [if_pos (by have : (⟨#[c]⟩ : ByteArray).size = 1 := rfl; omega)]
      have hset : (done ++ [cur]).set done.length (cur ++ ⟨#[c]⟩) = done ++ [cur ++ ⟨#[c]⟩] := by
        rw [List.set_append_right _ _ (Nat.le_refl _)]; simp
      rw [hset, ih (i + 1) done (cur ++ ⟨#[c]⟩) hr (by rw [ByteArray.size_append]; have : (⟨#[c]⟩ : ByteArray).size = 1 := rfl; omega)]
      obtain ⟨q, t, e⟩ := List.exists_cons_of_ne_nil (spl_ne r)
      rw [e]
      congr 2
      simp only [List.cons.injEq, and_true]
      rw [ByteArray.ext_iff, ← Array.toList_inj]
      simp [ba_append]

theorem rpieces_f (s : ByteArray) (hs : s.size ≤ 1000000) : oublietteref03_pieces.f (s.size + 1) s = some (Nm.pieces s) := by
  unfold oublietteref03_pieces.f
  have h := rpieces_from s hs s.data.toList 0 [] ⟨#[]⟩ rfl (by simp [ByteArray.size])
  have hl : s.data.toList.length = s.size := by simp
  rw [hl] at h
  rw [show ([⟨#[]⟩] : List ByteArray) = [] ++ [⟨#[]⟩] by rfl]
  rw [show ((0 : Nat) : Int) = 0 from rfl] at h
  rw [h, ← pieces_spl s.size s (Nat.le_refl _)]
  obtain ⟨q, t, e⟩ := List.exists_cons_of_ne_nil (pieces_ne s)
  rw [e]
  congr 1
  simp only [List.nil_append, List.map_cons, List.map_map]
  congr 1
  conv => rhs; rw [← List.map_id t]
  apply List.map_congr_left
  intro x _
  cases x; rfl
theorem rpieces_ev (s : ByteArray) (hs : s.size ≤ 1000000) : Ev (fun k => oublietteref03_pieces.f k s) (Nm.pieces s) := Ev.of (oublietteref03_pieces.mono s) (rpieces_f s hs)
end Go.Proofs.YtmonfmmcgfmeeaaGreatDoor.Lf

namespace Go.Proofs.YtmonfmmcgfmeeaaGreatDoor.Lf
open Go.RowKit Go.Proofs.YtmonfmmcgfmeeaaGreatDoor.Pl Go.Proofs.YtmonfmmcgfmeeaaGreatDoorW.PrintWords Go.Proofs.YtmonfmmcgfmeeaaGreatDoor.Tc
set_option linter.unusedVariables false
set_option linter.unusedSimpArgs false

/-! ### A text's first rune -/
theorem w32 (n : Int) (h : -2147483648 ≤ n ∧ n ≤ 2147483647) : wrap32 n = n := by unfold wrap32; omega
theorem bt_get (s : ByteArray) (i : Nat) : bt s (i : Int) = ((s.data.toList.getD i 0).toNat : Int) := by
  unfold bt
  simp only [Int.toNat_natCast]
  by_cases h : i < s.size
  · rw [dif_pos h, List.getD_eq_getElem?_getD, List.getElem?_eq_getElem (by simpa using h)]
    simp [ByteArray.getElem_eq_getElem_data]
  · rw [dif_neg h, List.getD_eq_getElem?_getD, List.getElem?_eq_none (by simpa using h)]
    rfl
theorem right2_total (r : Int) : ∃ b, oublietteref02_Right.f r = some b := by
  unfold oublietteref02_Right.f
  repeat' split
  all_goals exact ⟨_, rfl⟩
theorem right2_small (r : Int) (h0 : 0 ≤ r) (h1 : r < 2048) : oublietteref02_Right.f r = some true := by
  unfold oublietteref02_Right.f
  rw [if_pos (by omega), if_pos (by omega), if_pos (by omega)]
theorem bytes2_total (r : Int) : ∃ l, oublietteref02_Bytes.f r = some l ∧ (l.length = 1 → r < 128) ∧ (l.length = 2 → 128 ≤ r ∧ r < 2048) ∧ (3 ≤ l.length → 2048 ≤ r) ∧ 1 ≤ l.length := by
  unfold oublietteref02_Bytes.f
  split
  · exact ⟨_, rfl, fun _ => by assumption, fun h => by simp at h, fun h => by simp at h, by simp⟩
  · split
    · exact ⟨_, rfl, fun h => by simp at h, fun _ => by omega, fun h => by simp at h, by simp⟩
    · split
      · exact ⟨_, rfl, fun h => by simp at h, fun h => by simp at h, fun _ => by omega, by simp⟩
      · exact ⟨_, rfl, fun h => by simp at h, fun h => by simp at h, fun _ => by omega, by simp⟩

theorem j0_e (k : Nat) (s : ByteArray) (n x : Int) : oublietteref02_First.j0 (k + 1) s n x = if n > (s.size : Int) then (some (0, 0)) else (oublietteref02_First.l0 k s n x 1) := by rw [oublietteref02_First.j0]
theorem l0_e (k : Nat) (x0 : ByteArray) (x5 x6 x7 : Int) : oublietteref02_First.l0 (k + 1) x0 x5 x6 x7 = if x7 < x5 then (if 0 ≤ x7 then (if x7 < (x0.size : Int) then (if (bt x0 x7) < 128 then (some (0, 0)) else (if (bt x0 x7) > 191 then (some (0, 0)) else (oublietteref02_First.l0 k x0 x5 (wrap32 ((wrap32 ((wrap32 (x6 * 64)) + (wrap32 (bt x0 x7)))) - 128)) (wrap64 (x7 + 1))))) else (none)) else (none)) else ((oublietteref02_Right.f x6).bind fun t294 => (if t294 = true then ((oublietteref02_Bytes.f x6).bind fun t295 => (if 0 ≤ x5 then (if x5 ≤ (x0.size : Int) then (if (strOfNums t295).toList = (x0.extract 0 (x5 : Int).toNat).toList then (some (x6, x5)) else (some (0, 0))) else (none)) else (none))) else (some (0, 0)))) := by rw [oublietteref02_First.l0]

/-- The rest of First, from a byte on: it ends; what it tells has just so many bytes. -/
theorem first_l0 (s : ByteArray) (n : Nat) (hn : n ≤ s.size) (h4 : n ≤ 4) : ∀ (d i : Nat) (x : Int), i + d = n → 1 ≤ i →
    ∃ r c : Int, oublietteref02_First.l0 (d + 1) s (n : Int) x (i : Int) = some (r, c) ∧ ((r = 0 ∧ c = 0) ∨ (c = n ∧ ∃ l, oublietteref02_Bytes.f r = some l ∧ l.length = n)) := by
  intro d
  induction d with
  | zero =>
    intro i x h h1
    unfold oublietteref02_First.l0
    rw [if_neg (by omega)]
    obtain ⟨b, hb⟩ := right2_total x
    obtain ⟨l, hl, _⟩ := bytes2_total x
    rw [hb]
    simp only [Option.bind_some]
    split
    · rw [hl]
      simp only [Option.bind_some]
      rw [if_pos (by omega), if_pos (by omega)]
      split
      · rename_i he
        refine ⟨_, _, rfl, .inr ⟨rfl, l, hl, ?_⟩⟩
        have := congrArg List.length he
        rw [Lib.toList_data, Lib.toList_data] at this
        have h2 := strOfNums_size l
        simp only [Array.length_toList] at this
        have h3 : (strOfNums l).data.size = (strOfNums l).size := rfl
        have h5 : (s.extract 0 (n : Int).toNat).data.size = (s.extract 0 (n : Int).toNat).size := rfl
        rw [h3, h5, ByteArray.size_extract] at this
        omega
      · exact ⟨_, _, rfl, .inl ⟨rfl, rfl⟩⟩
    · exact ⟨_, _, rfl, .inl ⟨rfl, rfl⟩⟩
  | succ d ih =>
    intro i x h h1
    unfold oublietteref02_First.l0
    rw [if_pos (by omega), if_pos (by omega), if_pos (by omega)]
    split
    · exact ⟨_, _, rfl, .inl ⟨rfl, rfl⟩⟩
    · split
      · exact ⟨_, _, rfl, .inl ⟨rfl, rfl⟩⟩
      · have hw : wrap64 ((i : Int) + 1) = ((i + 1 : Nat) : Int) := by rw [wrap_in _ (by omega)]; omega
        rw [hw]
        exact ih (i + 1) _ (by omega) (by omega)
theorem first_j0 (s : ByteArray) (n : Nat) (h4 : n ≤ 4) (h1 : 1 ≤ n) (x : Int) :
    ∃ r c : Int, Ev (fun k => oublietteref02_First.j0 k s (n : Int) x) (r, c) ∧ ((r = 0 ∧ c = 0) ∨ (c = n ∧ n ≤ s.size ∧ ∃ l, oublietteref02_Bytes.f r = some l ∧ l.length = n)) := by
  by_cases hn : n ≤ s.size
  · obtain ⟨r, c, e, hc⟩ := first_l0 s n hn h4 (n - 1) 1 x (by omega) (Nat.le_refl _)
    refine ⟨r, c, ?_, hc.imp_right (fun h => ⟨h.1, hn, h.2⟩)⟩
    refine Ev.step (f := fun k => oublietteref02_First.l0 k s (n : Int) x 1) (fun k => ?_) (Ev.of (fun k => (oublietteref02_First.mono_l k).2 _ _ _ _) e)
    rw [j0_e, if_neg (by omega)]
  · refine ⟨0, 0, ?_, .inl ⟨rfl, rfl⟩⟩
    refine Ev.step (f := fun k => some (0, 0)) (fun k => ?_) (Ev.now _)
    rw [j0_e, if_pos (by omega)]

/-- What First tells of a text: its first rune, where that is below 2048; else nothing, or a rune above. -/
structure FirstAt (L : List UInt8) (r c : Int) : Prop where
  low : (Lib.decodeL L).1 < 2048 → r = ((Lib.decodeL L).1 : Int) ∧ c = ((Lib.decodeL L).2 : Int)
  high : 2048 ≤ (Lib.decodeL L).1 → (r = 0 ∧ c = 0) ∨ (2048 ≤ r ∧ 1 ≤ c ∧ c ≤ L.length)

theorem first_ev (s : ByteArray) (hs : s.size ≠ 0) : ∃ r c : Int, Ev (fun k => oublietteref02_First.f k s) (r, c) ∧ FirstAt s.data.toList r c := by
  have hlen : s.data.toList.length = s.size := by simp
  obtain ⟨b0, L, e⟩ : ∃ b0 L, s.data.toList = b0 :: L := List.exists_cons_of_ne_nil (by intro h; rw [h] at hlen; exact hs hlen.symm)
  have hb : bt s 0 = (b0.toNat : Int) := by
    have := bt_get s 0
    rw [e] at this
    exact this
  have hlt := b0.toNat_lt
  have hdec := Lib.decodeL_N s.data.toList
  rw [hlen] at hdec
  have hg0 : s.data.toList.getD 0 0 = b0 := by rw [e]; rfl
  rw [hg0] at hdec
  obtain ⟨b1, hb1⟩ : ∃ b1, s.data.toList.getD 1 0 = b1 := ⟨_, rfl⟩
  have hbt1 : bt s 1 = (b1.toNat : Int) := by have := bt_get s 1; rw [hb1] at this; exact this
  have hlt1 := b1.toNat_lt
  rw [hb1] at hdec
  have hw0 : wrap32 (b0.toNat : Int) = b0.toNat := w32 _ (by omega)
  by_cases c1 : b0.toNat < 128
  · -- one byte
    have hd : Lib.decodeL s.data.toList = (b0.toNat, 1) := by rw [hdec]; unfold Lib.decodeN; rw [if_pos c1]
    refine ⟨b0.toNat, 1, ?_, ⟨fun _ => by rw [hd]; exact ⟨rfl, rfl⟩, fun h => by rw [hd] at h; simp only at h; omega⟩⟩
    refine Ev.congr (f := fun k => oublietteref02_First.j0 k s 1 (b0.toNat : Int)) (fun k => ?_) ?_
    · unfold oublietteref02_First.f
      rw [if_neg (by omega), if_pos (by omega), hb, hw0, if_neg (by omega), if_neg (by omega), if_neg (by omega)]
    · refine Ev.step (f := fun k => oublietteref02_First.l0 k s 1 (b0.toNat : Int) 1) (fun k => ?_) ?_
      · rw [j0_e, if_neg (by omega)]
      · refine Ev.step (f := fun k => some ((b0.toNat : Int), (1 : Int))) (fun k => ?_) (Ev.now _)
        rw [l0_e, if_neg (by omega), right2_small _ (by omega) (by omega)]
        simp only [Option.bind_some, if_true]
        have hby : oublietteref02_Bytes.f (b0.toNat : Int) = some [(b0.toNat : Int) % 256] := by
          unfold oublietteref02_Bytes.f
          rw [if_pos (by omega)]
        rw [hby]
        simp only [Option.bind_some]
        rw [if_pos (by omega), if_pos (by omega), if_pos ?_]
        rw [Lib.toList_data, Lib.toList_data, strOfNums_data, ByteArray.data_extract, Array.toList_extract, List.extract_eq_take_drop, e]
        simp only [List.drop_zero, List.map_cons, List.map_nil]
        have : ((b0.toNat : Int) % 256).toNat = b0.toNat := by omega
        rw [this]
        simp
  · by_cases c2 : b0.toNat < 192
    · -- no first byte
      have hd : Lib.decodeL s.data.toList = (65533, 1) := by
        rw [hdec]; unfold Lib.decodeN
        rw [if_neg c1, if_neg (by omega), if_neg (by omega), if_neg (by omega)]
      obtain ⟨r, c, hev, hc⟩ := first_j0 s 1 (by omega) (by omega) (b0.toNat : Int)
      refine ⟨r, c, ?_, ⟨fun h => by rw [hd] at h; simp only at h; omega, fun _ => ?_⟩⟩
      · refine Ev.congr (f := fun k => oublietteref02_First.j0 k s 1 (b0.toNat : Int)) (fun k => ?_) hev
        unfold oublietteref02_First.f
        rw [if_neg (by omega), if_pos (by omega), hb, hw0, if_neg (by omega), if_neg (by omega), if_neg (by omega)]
      · have hz : r = 0 ∧ c = 0 := by
          have h2 : Ev (fun k => oublietteref02_First.j0 k s 1 (b0.toNat : Int)) (0, 0) := by
            refine Ev.step (f := fun k => oublietteref02_First.l0 k s 1 (b0.toNat : Int) 1) (fun k => ?_) ?_
            · rw [j0_e, if_neg (by omega)]
            · refine Ev.step (f := fun k => some ((0 : Int), (0 : Int))) (fun k => ?_) (Ev.now _)
              rw [l0_e, if_neg (by omega), right2_small _ (by omega) (by omega)]
              simp only [Option.bind_some, if_true]
              obtain ⟨l, hl, l1, l2, l3, l4⟩ := bytes2_total (b0.toNat : Int)
              rw [hl]
              simp only [Option.bind_some]
              rw [if_pos (by omega), if_pos (by omega), if_neg ?_]
              intro he
              have := congrArg List.length he
              rw [Lib.toList_data, Lib.toList_data] at this
              have h2 := strOfNums_size l
              simp only [Array.length_toList] at this
              have h3 : (strOfNums l).data.size = (strOfNums l).size := rfl
              have h5 : (s.extract 0 (1 : Int).toNat).data.size = (s.extract 0 (1 : Int).toNat).size := rfl
              rw [h3, h5, ByteArray.size_extract] at this
              have : l.length = 1 := by have h6 : (1 : Int).toNat = 1 := rfl; omega
              have := l1 this
              omega
          obtain ⟨K, h3⟩ := hev
          obtain ⟨K', h4⟩ := h2
          have a := h3 (max K K') (by omega)
          have b := h4 (max K K') (by omega)
          simp only at a b
          rw [show ((1 : Nat) : Int) = 1 from rfl] at a
          rw [a] at b
          simp only [Option.some.injEq, Prod.mk.injEq] at b
          exact b
        exact .inl hz
    · by_cases c3 : b0.toNat < 224
      · -- two bytes
        have hf : ∀ k, oublietteref02_First.f k s = oublietteref02_First.j0 k s 2 ((b0.toNat : Int) - 192) := fun k => by
          unfold oublietteref02_First.f
          rw [if_neg (by omega), if_pos (by omega), hb, hw0, if_neg (by omega), if_neg (by omega), if_pos (by omega), w32 _ (by omega)]
        by_cases hn : 2 ≤ s.size
        · by_cases hc : b1.toNat / 64 = 2
          · have hr : (wrap32 ((wrap32 ((wrap32 (((b0.toNat : Int) - 192) * 64)) + (wrap32 (b1.toNat : Int)))) - 128)) = ((b0.toNat % 32 * 64 + b1.toNat % 64 : Nat) : Int) := by
              have q1 : wrap32 (((b0.toNat : Int) - 192) * 64) = ((b0.toNat : Int) - 192) * 64 := w32 _ (by omega)
              have q2 : wrap32 (b1.toNat : Int) = b1.toNat := w32 _ (by omega)
              have q3 : wrap32 (((b0.toNat : Int) - 192) * 64 + b1.toNat) = ((b0.toNat : Int) - 192) * 64 + b1.toNat := w32 _ (by omega)
              have q4 : wrap32 (((b0.toNat : Int) - 192) * 64 + b1.toNat - 128) = ((b0.toNat : Int) - 192) * 64 + b1.toNat - 128 := w32 _ (by omega)
              rw [q1, q2, q3, q4]
              clear q1 q2 q3 q4 hw0 hb hbt1 hf
              omega
            have hEv : ∀ p, Ev (fun k => oublietteref02_First.l0 k s 2 ((b0.toNat % 32 * 64 + b1.toNat % 64 : Nat) : Int) 2) p → Ev (fun k => oublietteref02_First.f k s) p := fun p hp => by
              refine Ev.congr (f := fun k => oublietteref02_First.j0 k s 2 ((b0.toNat : Int) - 192)) hf ?_
              refine Ev.step (f := fun k => oublietteref02_First.l0 k s 2 ((b0.toNat : Int) - 192) 1) (fun k => ?_) ?_
              · rw [j0_e, if_neg (by omega)]
              · refine Ev.step (f := fun k => oublietteref02_First.l0 k s 2 ((b0.toNat % 32 * 64 + b1.toNat % 64 : Nat) : Int) 2) (fun k => ?_) hp
                rw [l0_e, if_pos (by omega), if_pos (by omega), if_pos (by omega), hbt1, if_neg (by omega), if_neg (by omega), hr, show wrap64 ((1 : Int) + 1) = 2 from by rw [wrap_in _ (by omega)]; rfl]
            obtain ⟨z, hz⟩ : ∃ z, z = b0.toNat % 32 * 64 + b1.toNat % 64 := ⟨_, rfl⟩
            rw [← hz] at hEv
            have hz2 : z < 2048 := by omega
            by_cases hov : 128 ≤ z
            · have hd : Lib.decodeL s.data.toList = (z, 2) := by
                rw [hdec]; unfold Lib.decodeN
                rw [if_neg c1, if_pos ⟨by omega, by omega, hc⟩, if_pos (by omega), hz]
              refine ⟨z, 2, hEv _ ?_, ⟨fun _ => by rw [hd]; exact ⟨rfl, rfl⟩, fun h => by rw [hd] at h; simp only at h; omega⟩⟩
              refine Ev.step (f := fun k => some ((z : Int), (2 : Int))) (fun k => ?_) (Ev.now _)
              rw [l0_e, if_neg (by omega), right2_small _ (by omega) (by omega)]
              simp only [Option.bind_some, if_true]
              have hby : oublietteref02_Bytes.f (z : Int) = some [(b0.toNat : Int), (b1.toNat : Int)] := by
                unfold oublietteref02_Bytes.f
                rw [if_neg (by omega), if_pos (by omega)]
                have t1 : Int.tdiv (z : Int) 64 = ((z / 64 : Nat) : Int) := by rw [Int.tdiv_eq_ediv_of_nonneg (by omega)]; omega
                have t2 : Int.tmod (z : Int) 64 = ((z % 64 : Nat) : Int) := by rw [Int.tmod_eq_emod_of_nonneg (by omega)]; omega
                rw [t1, t2, w32 ((z / 64 : Nat) : Int) (by omega), w32 _ (by omega), w32 _ (by omega)]
                congr 2
                · omega
                · congr 1; omega
              rw [hby]
              simp only [Option.bind_some]
              rw [if_pos (by omega), if_pos (by omega), if_pos ?_]
              obtain ⟨b1', L', e'⟩ : ∃ b1' L', L = b1' :: L' := List.exists_cons_of_ne_nil (by intro h; rw [e, h] at hlen; simp at hlen; omega)
              have hb1' : b1' = b1 := by rw [← hb1, e, e']; rfl
              rw [Lib.toList_data, Lib.toList_data, strOfNums_data, ByteArray.data_extract, Array.toList_extract, List.extract_eq_take_drop, e, e', hb1']
              simp
            · have hd : Lib.decodeL s.data.toList = (65533, 1) := by
                rw [hdec]; unfold Lib.decodeN
                rw [if_neg c1, if_pos ⟨by omega, by omega, hc⟩, if_neg (by omega)]
              refine ⟨0, 0, hEv _ ?_, ⟨fun h => by rw [hd] at h; simp only at h; omega, fun _ => .inl ⟨rfl, rfl⟩⟩⟩
              refine Ev.step (f := fun k => some ((0 : Int), (0 : Int))) (fun k => ?_) (Ev.now _)
              rw [l0_e, if_neg (by omega), right2_small _ (by omega) (by omega)]
              simp only [Option.bind_some, if_true]
              obtain ⟨l, hl, l1, l2, l3, l4⟩ := bytes2_total (z : Int)
              rw [hl]
              simp only [Option.bind_some]
              rw [if_pos (by omega), if_pos (by omega), if_neg ?_]
              intro he
              have := congrArg List.length he
              rw [Lib.toList_data, Lib.toList_data] at this
              have h2 := strOfNums_size l
              simp only [Array.length_toList] at this
              have h3 : (strOfNums l).data.size = (strOfNums l).size := rfl
              have h5 : (s.extract 0 (2 : Int).toNat).data.size = (s.extract 0 (2 : Int).toNat).size := rfl
              rw [h3, h5, ByteArray.size_extract] at this
              have : l.length = 2 := by have h6 : (2 : Int).toNat = 2 := rfl; omega
              have := l2 this
              omega
          · have hd : Lib.decodeL s.data.toList = (65533, 1) := by
              rw [hdec]; unfold Lib.decodeN
              rw [if_neg c1, if_neg (by omega), if_neg (by omega), if_neg (by omega)]
            refine ⟨0, 0, ?_, ⟨fun h => by rw [hd] at h; simp only at h; omega, fun _ => .inl ⟨rfl, rfl⟩⟩⟩
            refine Ev.congr (f := fun k => oublietteref02_First.j0 k s 2 ((b0.toNat : Int) - 192)) hf ?_
            refine Ev.step (f := fun k => oublietteref02_First.l0 k s 2 ((b0.toNat : Int) - 192) 1) (fun k => ?_) ?_
            · rw [j0_e, if_neg (by omega)]
            · refine Ev.step (f := fun k => some ((0 : Int), (0 : Int))) (fun k => ?_) (Ev.now _)
              rw [l0_e, if_pos (by omega), if_pos (by omega), if_pos (by omega), hbt1]
              by_cases q : b1.toNat < 128
              · rw [if_pos (by omega)]
              · rw [if_neg (by omega), if_pos (by omega)]
        · have hd : Lib.decodeL s.data.toList = (65533, 1) := by
            rw [hdec]; unfold Lib.decodeN
            rw [if_neg c1, if_neg (by omega), if_neg (by omega), if_neg (by omega)]
          refine ⟨0, 0, ?_, ⟨fun h => by rw [hd] at h; simp only at h; omega, fun _ => .inl ⟨rfl, rfl⟩⟩⟩
          refine Ev.congr (f := fun k => oublietteref02_First.j0 k s 2 ((b0.toNat : Int) - 192)) hf ?_
          refine Ev.step (f := fun k => some ((0 : Int), (0 : Int))) (fun k => ?_) (Ev.now _)
          rw [j0_e, if_pos (by omega)]
      · -- three bytes or four
        have hhi : 2048 ≤ (Lib.decodeL s.data.toList).1 := by
          rw [hdec]
          rcases Lib.decodeN_shape s.size b0.toNat b1.toNat (s.data.toList.getD 2 0).toNat (s.data.toList.getD 3 0).toNat with ⟨c, e⟩ | ⟨c1, c2, c3, cv, e⟩ | ⟨c1, c2, c3, c4, cv, cs, e⟩ | ⟨c1, c2, c3, c4, c5, cv, cw, e⟩ | e
          · omega
          · omega
          · rw [e]; exact cv
          · rw [e]; show 2048 ≤ _; omega
          · rw [e]; decide
        obtain ⟨n, x, hn3, hn4, hf⟩ : ∃ (n : Nat) (x : Int), 3 ≤ n ∧ n ≤ 4 ∧ ∀ k, oublietteref02_First.f k s = oublietteref02_First.j0 k s (n : Int) x := by
          by_cases c4 : 240 ≤ b0.toNat
          · exact ⟨4, _, by omega, by omega, fun k => by
              unfold oublietteref02_First.f
              rw [if_neg (by omega), if_pos (by omega), hb, hw0, if_pos (by omega)]; rfl⟩
          · exact ⟨3, _, by omega, by omega, fun k => by
              unfold oublietteref02_First.f
              rw [if_neg (by omega), if_pos (by omega), hb, hw0, if_neg (by omega), if_pos (by omega)]; rfl⟩
        obtain ⟨r, c, hev, hc⟩ := first_j0 s n hn4 (by omega) x
        refine ⟨r, c, Ev.congr hf hev, ⟨fun h => by omega, fun _ => ?_⟩⟩
        rcases hc with hc | ⟨rfl, hns, l, hl, hll⟩
        · exact .inl hc
        · obtain ⟨l', hl', _, _, l3, _⟩ := bytes2_total r
          rw [hl] at hl'
          obtain rfl := Option.some.inj hl'
          exact .inr ⟨l3 (by omega), by omega, by rw [hlen]; omega⟩
end Go.Proofs.YtmonfmmcgfmeeaaGreatDoor.Lf

namespace Go.Proofs.YtmonfmmcgfmeeaaGreatDoor.Lf
open Go.RowKit Go.Proofs.YtmonfmmcgfmeeaaGreatDoor.Pl Go.Proofs.YtmonfmmcgfmeeaaGreatDoorW.PrintWords Go.Proofs.YtmonfmmcgfmeeaaGreatDoor.Tc
set_option linter.unusedVariables false
set_option linter.unusedSimpArgs false

/-! ### A text's runes, as a list -/
def rsL : Nat → List UInt8 → List Int
  | 0, _ => []
  | n + 1, l => if l = [] then [] else ((Lib.decodeL l).1 : Int) :: rsL n (l.drop (Lib.decodeL l).2)
theorem rsL_fuel : ∀ (n m : Nat) (l : List UInt8), l.length ≤ n → l.length ≤ m → rsL n l = rsL m l
  | 0, m, l, h, _ => by
    have : l = [] := List.eq_nil_of_length_eq_zero (by omega)
    subst this
    cases m <;> simp [rsL]
  | n + 1, 0, l, _, h => by
    have : l = [] := List.eq_nil_of_length_eq_zero (by omega)
    subst this
    simp [rsL]
  | n + 1, m + 1, l, h1, h2 => by
    simp only [rsL]
    by_cases h : l = []
    · simp [h]
    · have hw := Lib.decodeL_width l
      have hp := List.length_pos_iff.2 h
      rw [if_neg h, if_neg h, rsL_fuel n m _ (by rw [List.length_drop]; omega) (by rw [List.length_drop]; omega)]
def rs (l : List UInt8) : List Int := rsL l.length l
theorem rs_nil : rs [] = [] := rfl
theorem rs_step {l : List UInt8} (h : l ≠ []) : rs l = ((Lib.decodeL l).1 : Int) :: rs (l.drop (Lib.decodeL l).2) := by
  have hp := List.length_pos_iff.2 h
  have hw := Lib.decodeL_width l
  unfold rs
  obtain ⟨n, hn⟩ : ∃ n, l.length = n + 1 := ⟨l.length - 1, by omega⟩
  rw [hn]
  simp only [rsL]
  rw [if_neg h, rsL_fuel n _ _ (by rw [List.length_drop]; omega) (Nat.le_refl _)]
theorem runesFrom_rs (s : ByteArray) : ∀ (b pos : Nat), s.size ≤ pos + b → Nm.runesFrom s b pos = rs (s.data.toList.drop pos)
  | 0, pos, h => by
    rw [List.drop_of_length_le (by simpa using h)]; rfl
  | b + 1, pos, h => by
    simp only [Nm.runesFrom]
    by_cases hp : pos < s.size
    · have hne : s.data.toList.drop pos ≠ [] := by
        intro e
        have := List.drop_eq_nil_iff.1 e
        have hl : s.data.toList.length = s.size := by simp
        omega
      have hw := Lib.decode_width_pos s pos hp
      rw [if_pos hp, rs_step hne, Lib.decodeL_drop, List.drop_drop, runesFrom_rs s b _ (by omega)]
    · rw [if_neg hp, List.drop_of_length_le (by simpa using hp)]; rfl
theorem runesOf_rs (s : ByteArray) : Nm.runesOf s = rs s.data.toList := by
  unfold Nm.runesOf
  rw [runesFrom_rs s s.size 0 (by omega)]; rfl
theorem rs_len : ∀ (n : Nat) (l : List UInt8), l.length ≤ n → (rs l).length ≤ l.length
  | 0, l, h => by
    have : l = [] := List.eq_nil_of_length_eq_zero (by omega)
    subst this; simp [rs_nil]
  | n + 1, l, h => by
    by_cases e : l = []
    · subst e; simp [rs_nil]
    · have hp := List.length_pos_iff.2 e
      have hw := Lib.decodeL_width l
      rw [rs_step e, List.length_cons]
      have := rs_len n (l.drop (Lib.decodeL l).2) (by rw [List.length_drop]; omega)
      rw [List.length_drop] at this
      omega
/-- Low runes of a text do not hang on what stands behind it. -/
theorem rs_append : ∀ (n : Nat) (a b : List UInt8), a.length ≤ n → (∀ x ∈ rs a, x < 2048) → rs (a ++ b) = rs a ++ rs b
  | 0, a, b, h, _ => by
    have : a = [] := List.eq_nil_of_length_eq_zero (by omega)
    subst this; simp [rs_nil]
  | n + 1, a, b, h, hx => by
    by_cases e : a = []
    · subst e; simp [rs_nil]
    · have hp := List.length_pos_iff.2 e
      have hw := Lib.decodeL_width a
      have hle := Lib.decodeL_le a e
      have hs := rs_step e
      rw [hs] at hx
      have h1 : ((Lib.decodeL a).1 : Int) < 2048 := hx _ (by simp)
      have hd : Lib.decodeL (a ++ b) = Lib.decodeL a := by
        have g0 : (a ++ b).getD 0 0 = a.getD 0 0 := by
          rw [List.getD_eq_getElem?_getD, List.getD_eq_getElem?_getD, List.getElem?_append_left hp]
        rw [Lib.decodeL_N a] at h1 hle ⊢
        rw [Lib.decodeL_N (a ++ b), g0]
        rcases Lib.decodeN_shape a.length (a.getD 0 0).toNat (a.getD 1 0).toNat (a.getD 2 0).toNat (a.getD 3 0).toNat with ⟨c, e⟩ | ⟨c1, c2, c3, cv, e⟩ | ⟨c1, c2, c3, c4, cv, cs, e⟩ | ⟨c1, c2, c3, c4, c5, cv, cw, e⟩ | e
        · rw [e]; unfold Lib.decodeN; rw [if_pos c]
        · have g1 : (a ++ b).getD 1 0 = a.getD 1 0 := by
            rw [List.getD_eq_getElem?_getD, List.getD_eq_getElem?_getD, List.getElem?_append_left c2]
          rw [e, g1]
          have hnb : ¬ (a.getD 0 0).toNat < 128 := by omega
          unfold Lib.decodeN
          rw [if_neg hnb, if_pos ⟨c1, by rw [List.length_append]; omega, c3⟩, if_pos cv]
        · rw [e] at h1; simp only at h1; omega
        · rw [e] at h1; simp only at h1; omega
        · rw [e] at h1; simp only at h1; omega
      rw [rs_step (l := a ++ b) (by simp [e]), hd, List.drop_append_of_le_length hle, rs_append n _ b (by rw [List.length_drop]; omega) (fun x hx' => hx x (List.mem_cons_of_mem _ hx')), hs]
      rfl
theorem rs_dot (b : List UInt8) : rs (46 :: b) = 46 :: rs b := by
  rw [rs_step (by simp), Lib.decodeL_ascii 46 b (by decide)]
  rfl

/-! ### Runes -/
theorem extract_drop (s : ByteArray) (i : Nat) : (s.extract i s.size).data.toList = s.data.toList.drop i := by
  rw [ByteArray.data_extract, Array.toList_extract, List.extract_eq_take_drop, List.take_of_length_le (by simp)]
theorem runes_go (s : ByteArray) (hs : s.size ≤ 1000000) : ∀ (n pos : Nat) (pre : List Int), s.size ≤ pos + n → pre.length ≤ pos → pos ≤ s.size →
    ∃ (l : List Int) (x f : Int), Ev (fun k => oublietteref02_Runes.l0 k s pre (pos : Int)) (l, x, f) ∧ (f = 0 → ∃ q, l = pre ++ q) ∧
      (((∀ r ∈ rs (s.data.toList.drop pos), r < 2048) ∧ l = pre ++ rs (s.data.toList.drop pos) ∧ f = 0) ∨ ((∃ r ∈ rs (s.data.toList.drop pos), 2048 ≤ r) ∧ (f ≠ 0 ∨ ∃ r ∈ l, 2048 ≤ r)))
  | n, pos, pre, hn, hpre, hps => by
    by_cases hp : pos < s.size
    · cases n with
      | zero => omega
      | succ n =>
        have hne : s.data.toList.drop pos ≠ [] := by
          intro e
          have := List.drop_eq_nil_iff.1 e
          have hl : s.data.toList.length = s.size := by simp
          omega
        have hsz : (s.extract pos s.size).size ≠ 0 := by rw [ByteArray.size_extract]; omega
        obtain ⟨r, c, hev, hat⟩ := first_ev (s.extract pos s.size) hsz
        rw [extract_drop] at hat
        have hlen : (s.data.toList.drop pos).length = s.size - pos := by simp
        have hw := Lib.decodeL_width (s.data.toList.drop pos)
        have hle := Lib.decodeL_le _ hne
        rw [rs_step hne]
        have hstep : ∀ k, oublietteref02_Runes.l0 (k + 1) s pre (pos : Int) = ((oublietteref02_First.f k (s.extract pos s.size)).bind fun bt298 => (if bt298.2 = 0 then (some (([] : List Int), (pos : Int), 4)) else (oublietteref02_Runes.l0 k s (pre ++ [bt298.1]) (wrap64 ((pos : Int) + bt298.2))))) := fun k => by
          rw [oublietteref02_Runes.l0]
          rw [if_pos (by omega), if_pos (by omega), if_pos (by omega)]
          simp only [Int.toNat_natCast]
          congr 1
          funext bt
          by_cases hz : bt.2 = 0
          · rw [if_pos hz, if_pos hz]
          · rw [if_neg hz, if_neg hz, if_pos (by omega)]
        by_cases hlow : (Lib.decodeL (s.data.toList.drop pos)).1 < 2048
        · obtain ⟨rfl, rfl⟩ := hat.low hlow
          obtain ⟨l, x, f, hev2, hq, hcase⟩ := runes_go s hs n (pos + (Lib.decodeL (s.data.toList.drop pos)).2) (pre ++ [((Lib.decodeL (s.data.toList.drop pos)).1 : Int)]) (by omega) (by simp; omega) (by omega)
          refine ⟨l, x, f, ?_, fun hf => ?_, ?_⟩
          · refine Ev.step hstep (Ev.bind hev ?_)
            refine Ev.congr (fun k => ?_) hev2
            rw [if_neg (by simp only; omega), wrap_in _ (by simp only; omega)]
            congr 1
          · obtain ⟨q, e⟩ := hq hf
            exact ⟨_, by rw [e, List.append_assoc]⟩
          · rw [← List.drop_drop] at hcase
            rcases hcase with ⟨h1, h2, h3⟩ | ⟨⟨y, hy, hy2⟩, h2⟩
            · refine .inl ⟨?_, by rw [h2]; simp, h3⟩
              intro y hy
              rcases List.mem_cons.1 hy with rfl | hy
              · omega
              · exact h1 y hy
            · exact .inr ⟨⟨y, List.mem_cons_of_mem _ hy, hy2⟩, h2⟩
        · have hhi : 2048 ≤ (Lib.decodeL (s.data.toList.drop pos)).1 := by omega
          have hex : ∃ y ∈ ((Lib.decodeL (s.data.toList.drop pos)).1 : Int) :: rs ((s.data.toList.drop pos).drop (Lib.decodeL (s.data.toList.drop pos)).2), 2048 ≤ y := ⟨((Lib.decodeL (s.data.toList.drop pos)).1 : Int), List.mem_cons_self, by omega⟩
          rcases hat.high hhi with ⟨rfl, rfl⟩ | ⟨hr, hc1, hc2⟩
          · refine ⟨[], pos, 4, ?_, fun h => by omega, .inr ⟨hex, .inl (by omega)⟩⟩
            refine Ev.step hstep (Ev.bind hev ?_)
            refine Ev.congr (fun k => ?_) (Ev.now _)
            rw [if_pos rfl]
          · obtain ⟨c', rfl⟩ : ∃ m : Nat, c = m := ⟨c.toNat, by omega⟩
            obtain ⟨l, x, f, hev2, hq, hcase⟩ := runes_go s hs n (pos + c') (pre ++ [r]) (by omega) (by simp; omega) (by omega)
            refine ⟨l, x, f, ?_, fun hf => ?_, .inr ⟨hex, ?_⟩⟩
            · refine Ev.step hstep (Ev.bind hev ?_)
              refine Ev.congr (fun k => ?_) hev2
              rw [if_neg (by simp only; omega), wrap_in _ (by simp only; omega)]
              congr 1
            · obtain ⟨q, e⟩ := hq hf
              exact ⟨_, by rw [e, List.append_assoc]⟩
            · by_cases hf : f = 0
              · obtain ⟨q, e⟩ := hq hf
                exact .inr ⟨r, by rw [e]; simp, hr⟩
              · exact .inl hf
    · refine ⟨pre, 0, 0, ?_, fun _ => ⟨[], by simp⟩, .inl ?_⟩
      · refine Ev.step (f := fun k => some (pre, 0, 0)) (fun k => ?_) (Ev.now _)
        rw [oublietteref02_Runes.l0, if_neg (by omega)]
      · rw [List.drop_of_length_le (by simpa using hp), rs_nil]
        simp

/-- What Runes tells of a text. -/
theorem runes_ev (s : ByteArray) (hs : s.size ≤ 1000000) : ∃ (l : List Int) (x f : Int), Ev (fun k => oublietteref02_Runes.f k s) (l, x, f) ∧
    (((∀ r ∈ Nm.runesOf s, r < 2048) ∧ l = Nm.runesOf s ∧ f = 0) ∨ ((∃ r ∈ Nm.runesOf s, 2048 ≤ r) ∧ (f ≠ 0 ∨ ∃ r ∈ l, 2048 ≤ r))) := by
  obtain ⟨l, x, f, h1, _, h2⟩ := runes_go s hs s.size 0 [] (by omega) (by simp) (by omega)
  rw [List.drop_zero, ← runesOf_rs, List.nil_append] at h2
  exact ⟨l, x, f, h1, h2⟩

/-! ### small, Part -/
theorem upper2 (r : Int) : oublietteref02_Upper.f r = some (Nm.upperB r) := by
  unfold oublietteref02_Upper.f Nm.upperB
  repeat' split
  all_goals (congr 1; rw [Bool.eq_iff_iff]; simp; omega)
theorem letter2 (r : Int) : oublietteref02_Letter.f r = some (Nm.letterB r) := by
  unfold oublietteref02_Letter.f
  rw [upper2]
  simp only [Option.bind_some]
  unfold Nm.letterB
  cases Nm.upperB r
  · simp only [Bool.false_eq_true, if_false, Bool.false_or]
    repeat' split
    all_goals (congr 1; rw [Bool.eq_iff_iff]; simp; omega)
  · simp
theorem small3 (r : Int) : oublietteref03_small.f r = some (Nm.smallB r) := by
  unfold oublietteref03_small.f
  rw [letter2, upper2]
  simp only [Option.bind_some]
  unfold Nm.smallB
  cases Nm.letterB r <;> cases Nm.upperB r <;> simp <;> repeat' split
  all_goals (try simp) 
  all_goals (try omega)
theorem small_low {r : Int} (h : Nm.smallB r = true) : r < 2048 := by
  unfold Nm.smallB Nm.letterB Nm.upperB at h
  simp at h
  omega

theorem part_l0 (l : List Int) (hl : l.length ≤ 1000000) : ∀ (r : List Int) (i : Nat), l.drop i = r → oublietteref03_Part.l0 (r.length + 1) l (i : Int) = some (r.all Nm.smallB)
  | [], i, h => by
    have : l.length ≤ i := List.drop_eq_nil_iff.1 h
    rw [oublietteref03_Part.l0, if_neg (by omega)]
    rfl
  | x :: r, i, h => by
    have hi : i < l.length := by
      rcases Nat.lt_or_ge i l.length with h1 | h1
      · exact h1
      · rw [List.drop_of_length_le h1] at h; cases h
    have hr : l.drop (i + 1) = r := by rw [← List.drop_drop, h]; rfl
    have hx : rd l (i : Int) = x := by
      have h1 : (l.drop i)[0]? = some x := by rw [h]; rfl
      rw [List.getElem?_drop, Nat.add_zero] at h1
      simp [rd, List.getD_eq_getElem?_getD, h1]
    rw [List.length_cons, oublietteref03_Part.l0, if_pos (by omega), if_pos (by omega), hx, small3]
    simp only [Option.bind_some]
    rw [wrap_in _ (by omega), show ((i : Int) + 1) = ((i + 1 : Nat) : Int) by omega, part_l0 l hl r (i + 1) hr, List.all_cons]
    cases Nm.smallB x <;> simp
theorem part_ev (s : ByteArray) (hs : s.size ≤ 1000000) : Ev (fun k => oublietteref03_Part.f k s) (Nm.partB s) := by
  obtain ⟨l, x, f, hev, hc⟩ := runes_ev s hs
  have hj0 : ∀ (b : Bool) (r : Bool), (b = true → r = false) → (b = false → Ev (fun k => oublietteref03_Part.l0 k l 0) r) → Ev (fun k => oublietteref03_Part.j0 k l b) r := fun b r h1 h2 => by
    cases b
    · refine Ev.step (f := fun k => oublietteref03_Part.l0 k l 0) (fun k => ?_) (h2 rfl)
      rw [oublietteref03_Part.j0]; simp
    · refine Ev.step (f := fun k => some r) (fun k => ?_) (Ev.now _)
      rw [oublietteref03_Part.j0, if_pos rfl, h1 rfl]
  have hl0 : l.length ≤ 1000000 → Ev (fun k => oublietteref03_Part.l0 k l 0) (l.all Nm.smallB) := fun hl =>
    Ev.of (fun k => (oublietteref03_Part.mono_l k).2 _ _) (part_l0 l hl l 0 rfl)
  unfold oublietteref03_Part.f
  refine Ev.bind hev ?_
  simp only
  rcases hc with ⟨h1, rfl, rfl⟩ | ⟨⟨y, hy, hy2⟩, h2⟩
  · have hlen : (Nm.runesOf s).length ≤ 1000000 := Nat.le_trans (by rw [runesOf_rs]; exact rs_len _ _ (Nat.le_refl _)) (by simpa using hs)
    simp only [if_true]
    by_cases hn : ((Nm.runesOf s).length : Int) < 1
    · simp only [if_pos hn]
      refine hj0 true _ (fun _ => ?_) (fun h => by cases h)
      unfold Nm.partB
      rw [Bool.and_eq_false_iff]; right
      rw [Bool.and_eq_false_iff]; left
      exact decide_eq_false (by omega)
    · simp only [if_neg hn]
      refine hj0 _ _ (fun h => ?_) (fun h => ?_)
      · simp only [decide_eq_true_eq] at h
        unfold Nm.partB
        rw [Bool.and_eq_false_iff]; right
        rw [Bool.and_eq_false_iff]; right
        exact decide_eq_false (by omega)
      · simp only [decide_eq_false_iff_not] at h
        have : Nm.partB s = (Nm.runesOf s).all Nm.smallB := by
          unfold Nm.partB
          rw [decide_eq_true (by omega), decide_eq_true (by omega)]; simp
        rw [this]
        exact hl0 hlen
  · have hpf : Nm.partB s = false := by
      unfold Nm.partB
      rw [Bool.and_eq_false_iff]; left
      rw [List.all_eq_false]
      exact ⟨y, hy, fun e => by have := small_low e; omega⟩
    rw [hpf]
    by_cases hf : f = 0
    · simp only [if_pos hf]
      have hx : ∃ r ∈ l, 2048 ≤ r := by rcases h2 with h | h; exact absurd hf h; exact h
      obtain ⟨z, hz, hz2⟩ := hx
      by_cases hn : (l.length : Int) < 1
      · simp only [if_pos hn]
        exact hj0 true _ (fun _ => rfl) (fun h => by cases h)
      · simp only [if_neg hn]
        refine hj0 _ _ (fun _ => rfl) (fun h => ?_)
        simp only [decide_eq_false_iff_not] at h
        have hall : l.all Nm.smallB = false := by
          rw [List.all_eq_false]
          exact ⟨z, hz, fun e => by have := small_low e; omega⟩
        rw [← hall]
        exact hl0 (by omega)
    · simp only [if_neg hf]
      exact hj0 true _ (fun _ => rfl) (fun h => by cases h)

/-! ### Right -/
theorem join_runes : ∀ (ps : List ByteArray), ps.all Nm.partB = true → ps ≠ [] → (∀ r ∈ rs (joinP ps), r < 2048) ∧ (rs (joinP ps)).length + 1 = Nm.sumR ps
  | [], _, h => absurd rfl h
  | [p], h, _ => by
    rw [List.all_cons, Bool.and_eq_true] at h
    have hp := h.1
    unfold Nm.partB at hp
    rw [Bool.and_eq_true, List.all_eq_true] at hp
    show (∀ r ∈ rs p.data.toList, r < 2048) ∧ _
    rw [← runesOf_rs]
    exact ⟨fun r hr => small_low (hp.1 r hr), by simp [joinP, Nm.sumR, ← runesOf_rs]⟩
  | p :: q :: r, h, _ => by
    rw [List.all_cons, Bool.and_eq_true] at h
    obtain ⟨i1, i2⟩ := join_runes (q :: r) h.2 (by simp)
    have hp := h.1
    unfold Nm.partB at hp
    rw [Bool.and_eq_true, List.all_eq_true] at hp
    have hlow : ∀ x ∈ rs p.data.toList, x < 2048 := by rw [← runesOf_rs]; exact fun x hx => small_low (hp.1 x hx)
    have e : rs (joinP (p :: q :: r)) = rs p.data.toList ++ 46 :: rs (joinP (q :: r)) := by
      show rs (p.data.toList ++ 46 :: joinP (q :: r)) = _
      rw [rs_append _ _ _ (Nat.le_refl _) hlow, rs_dot]
    rw [e]
    refine ⟨fun x hx => ?_, ?_⟩
    · rcases List.mem_append.1 hx with hx | hx
      · exact hlow x hx
      · rcases List.mem_cons.1 hx with rfl | hx
        · decide
        · exact i1 x hx
    · rw [List.length_append, List.length_cons]
      show _ = ((Nm.runesOf p).length + 1) + Nm.sumR (q :: r)
      rw [runesOf_rs]
      omega
theorem count_ev (s : ByteArray) (hs : s.size ≤ 1000000) (h : (Nm.pieces s).all Nm.partB = true) : Ev (fun k => oublietteref02_Count.f k s) ((Nm.sumR (Nm.pieces s) : Int) - 1) := by
  obtain ⟨l, x, f, hev, hc⟩ := runes_ev s hs
  obtain ⟨j1, j2⟩ := join_runes (Nm.pieces s) h (pieces_ne s)
  rw [join_pieces s.size s (Nat.le_refl _), ← runesOf_rs] at j1 j2
  unfold oublietteref02_Count.f
  refine Ev.bind hev ?_
  simp only
  rcases hc with ⟨_, rfl, rfl⟩ | ⟨⟨y, hy, hy2⟩, _⟩
  · simp only [if_true]
    rw [show (Nm.sumR (Nm.pieces s) : Int) - 1 = ((Nm.runesOf s).length : Int) by omega]
    exact Ev.now _
  · have := j1 y hy; omega
theorem piece_size (s : ByteArray) : ∀ p ∈ Nm.pieces s, p.size ≤ s.size := by
  intro p hp
  have h := pieces_spl s.size s (Nat.le_refl _)
  have h2 : ∀ (l : List UInt8), ∀ q ∈ spl l, q.length ≤ l.length := by
    intro l
    induction l with
    | nil => intro q hq; simp [spl] at hq; subst hq; simp
    | cons c r ih =>
      intro q hq
      simp only [spl] at hq
      split at hq
      · rcases List.mem_cons.1 hq with rfl | hq
        · simp
        · have := ih q hq; simp; omega
      · cases hs : spl r with
        | nil => rw [hs] at hq; simp at hq; subst hq; simp
        | cons a b =>
          rw [hs] at hq ih
          rcases List.mem_cons.1 hq with rfl | hq
          · have := ih a (by simp); simp; omega
          · have := ih q (List.mem_cons_of_mem _ hq); simp; omega
  have h3 : p.data.toList ∈ spl s.data.toList := by rw [← h]; exact List.mem_map.2 ⟨p, hp, rfl⟩
  have := h2 _ _ h3
  simpa using this
theorem right_l0 (s : ByteArray) (hs : s.size ≤ 1000000) (ps : List ByteArray) (hps : ps = Nm.pieces s) : ∀ (r : List ByteArray) (i : Nat), ps.drop i = r → ((ps.take i).all Nm.partB = true) →
    Ev (fun k => oublietteref03_Right.l0 k s ps (i : Int)) (r.all Nm.partB && (decide (ps.length ≤ 4) && decide (Nm.sumR ps ≤ 25)))
  | [], i, h, ha => by
    have hi : ps.length ≤ i := List.drop_eq_nil_iff.1 h
    rw [List.take_of_length_le hi] at ha
    rw [List.all_nil, Bool.true_and]
    by_cases h4 : ps.length ≤ 4
    · refine Ev.step (f := fun k => ((oublietteref02_Count.f k s).bind fun t325 => (some (decide (t325 ≤ 24))))) (fun k => ?_) ?_
      · rw [oublietteref03_Right.l0, if_neg (by omega), if_pos (by omega)]
      · refine Ev.bind (count_ev s hs (hps ▸ ha)) ?_
        rw [decide_eq_true h4, Bool.true_and, ← hps]
        have : decide ((Nm.sumR ps : Int) - 1 ≤ 24) = decide (Nm.sumR ps ≤ 25) := by rw [decide_eq_decide]; omega
        rw [← this]
        exact Ev.now _
    · refine Ev.step (f := fun k => some false) (fun k => ?_) ?_
      · rw [oublietteref03_Right.l0, if_neg (by omega), if_neg (by omega)]
      · rw [decide_eq_false h4, Bool.false_and]
        exact Ev.now _
  | p :: r, i, h, ha => by
    have hi : i < ps.length := by
      rcases Nat.lt_or_ge i ps.length with h1 | h1
      · exact h1
      · rw [List.drop_of_length_le h1] at h; cases h
    have hr : ps.drop (i + 1) = r := by rw [← List.drop_drop, h]; rfl
    have hx : rdOf ByteArray.empty ps (i : Int) = p := rdOf_drop _ _ _ _ _ h
    have hpi : ps[i] = p := by
      have h1 : (ps.drop i)[0]? = some p := by rw [h]; rfl
      rw [List.getElem?_drop, Nat.add_zero, List.getElem?_eq_getElem hi] at h1
      exact Option.some.inj h1
    have hsz : p.size ≤ 1000000 := Nat.le_trans (piece_size s p (by rw [← hps, ← hpi]; exact List.getElem_mem hi)) hs
    have hpl : ps.length ≤ s.size + 1 := by rw [hps]; exact Nm.pieces_le s
    have hstep : ∀ k, oublietteref03_Right.l0 (k + 1) s ps (i : Int) = (oublietteref03_Part.f k p).bind fun t324 => (if t324 = true then (oublietteref03_Right.l0 k s ps ((i + 1 : Nat) : Int)) else (some false)) := fun k => by
      rw [oublietteref03_Right.l0, if_pos (by omega), if_pos (by omega), hx, wrap_in _ (by omega)]; rfl
    refine Ev.step hstep (Ev.bind (part_ev p hsz) ?_)
    rw [List.all_cons]
    cases hb : Nm.partB p
    · simp only [Bool.false_eq_true, if_false, Bool.false_and]
      exact Ev.now _
    · simp only [if_true, Bool.true_and]
      exact right_l0 s hs ps hps r (i + 1) hr (by rw [List.take_succ_eq_append_getElem hi, List.all_append, ha, hpi]; simp [hb])
theorem right_ev (s : ByteArray) (hs : s.size ≤ 1000000) : Ev (fun k => oublietteref03_Right.f k s) (Nm.rightB s) := by
  unfold oublietteref03_Right.f
  refine Ev.bind (rpieces_ev s hs) ?_
  exact right_l0 s hs (Nm.pieces s) rfl (Nm.pieces s) 0 rfl rfl
end Go.Proofs.YtmonfmmcgfmeeaaGreatDoor.Lf

namespace Go.Proofs.YtmonfmmcgfmeeaaGreatDoor.Lf
open Go.RowKit Go.Proofs.YtmonfmmcgfmeeaaGreatDoor.Pl Go.Proofs.YtmonfmmcgfmeeaaGreatDoorW.PrintWords Go.Proofs.YtmonfmmcgfmeeaaGreatDoor.Tc
set_option linter.unusedVariables false
set_option linter.unusedSimpArgs false

theorem cmp_l0e (k : Nat) (x5 x6 : List ByteArray) (x7 : Int) : oublietteref03_Cmp.l0 (k + 1) x5 x6 x7 = if x7 < (x5.length : Int) then (oublietteref03_Cmp.j2 k x5 x6 x7 (decide (x7 < (x6.length : Int)))) else (oublietteref03_Cmp.j2 k x5 x6 x7 false) := by rw [oublietteref03_Cmp.l0]
theorem cmp_go (x y : List ByteArray) (hx : x.length ≤ 1000001) (hy : y.length ≤ 1000001) : ∀ (r : List ByteArray) (i : Nat), x.drop i = r → i ≤ x.length → i ≤ y.length →
    Ev (fun k => oublietteref03_Cmp.l0 k x y (i : Int)) (cmpL r (y.drop i))
  | [], i, h, h1, h2 => by
    have hi : x.length ≤ i := List.drop_eq_nil_iff.1 h
    refine Ev.step (f := fun k => oublietteref03_Cmp.j2 k x y (i : Int) false) (fun k => by rw [cmp_l0e, if_neg (by omega)]) ?_
    refine Ev.step (f := fun k => some (cmpL [] (y.drop i))) (fun k => ?_) (Ev.now _)
    rw [oublietteref03_Cmp.j2, if_neg (by decide)]
    by_cases hl : i < y.length
    · rw [if_pos (by omega), List.drop_eq_getElem_cons hl, cmpL]
    · rw [if_neg (by omega), if_neg (by omega), List.drop_of_length_le (by omega), cmpL]
  | a :: r, i, h, h1, h2 => by
    have hi : i < x.length := by
      rcases Nat.lt_or_ge i x.length with h1 | h1
      · exact h1
      · rw [List.drop_of_length_le h1] at h; cases h
    have hr : x.drop (i + 1) = r := by rw [← List.drop_drop, h]; rfl
    have hxa : rdOf ByteArray.empty x (i : Int) = a := rdOf_drop _ _ _ _ _ h
    refine Ev.step (f := fun k => oublietteref03_Cmp.j2 k x y (i : Int) (decide ((i : Int) < (y.length : Int)))) (fun k => by rw [cmp_l0e, if_pos (by omega)]) ?_
    by_cases hl : i < y.length
    · have hyd := List.drop_eq_getElem_cons hl
      have hyb : rdOf ByteArray.empty y (i : Int) = y[i] := rdOf_drop _ _ _ _ _ hyd
      rw [decide_eq_true (by omega), hyd, cmpL]
      generalize y[i] = b at hyb
      have hstep : ∀ k, oublietteref03_Cmp.j2 (k + 1) x y (i : Int) true = (if (Op.bytesLess a.toList b.toList) = true then (some (-1)) else (if (Op.bytesLess b.toList a.toList) = true then (some 1) else (oublietteref03_Cmp.l0 k x y ((i + 1 : Nat) : Int)))) := fun k => by
        rw [oublietteref03_Cmp.j2, if_pos rfl, if_pos (by omega), if_pos (by omega), if_pos (by omega), hxa, hyb, wrap_in _ (by omega)]; rfl
      refine Ev.step hstep ?_
      have hs := cmpS_tc
      by_cases c1 : Op.bytesLess a.toList b.toList = true
      · have e : cmpS a b = -1 := by unfold cmpS; rw [if_pos c1]
        simp only [if_pos c1]
        rw [e, if_neg (by decide)]
        exact Ev.now _
      · simp only [if_neg c1]
        by_cases c2 : Op.bytesLess b.toList a.toList = true
        · have e' : cmpS b a = -1 := by unfold cmpS; rw [if_pos c2]
          have e2 : 0 < cmpS a b := (hs.anti b a).1 (by rw [e']; decide)
          have e : cmpS a b = 1 := by
            unfold cmpS at e2 ⊢
            rw [if_neg c1] at e2 ⊢
            split at e2
            · omega
            · rename_i hne; rw [if_neg hne]
          simp only [if_pos c2]
          rw [e, if_neg (by decide)]
          exact Ev.now _
        · simp only [if_neg c2]
          have e : cmpS a b = 0 := by
            have h1 : ¬ cmpS b a < 0 := by
              intro hh
              unfold cmpS at hh
              rw [if_neg c2] at hh
              split at hh <;> omega
            have h2 : ¬ cmpS a b < 0 := by
              intro hh
              unfold cmpS at hh
              rw [if_neg c1] at hh
              split at hh <;> omega
            have := hs.anti b a
            omega
          rw [if_pos e]
          exact cmp_go x y hx hy r (i + 1) hr (by omega) (by omega)
    · rw [decide_eq_false (by omega), List.drop_of_length_le (by omega), cmpL]
      refine Ev.step (f := fun k => some 1) (fun k => ?_) (Ev.now _)
      rw [oublietteref03_Cmp.j2, if_neg (by decide), if_neg (by omega), if_pos (by omega)]
theorem cmp_ev (a b : ByteArray) (ha : a.size ≤ 1000000) (hb : b.size ≤ 1000000) (hra : Nm.rightB a = true) (hrb : Nm.rightB b = true) : Ev (fun k => oublietteref03_Cmp.f k a b) (cmpL (Nm.pieces a) (Nm.pieces b)) := by
  unfold oublietteref03_Cmp.f
  refine Ev.bind (right_ev a ha) ?_
  rw [hra]
  simp only [if_true]
  refine Ev.bind (right_ev b hb) ?_
  rw [hrb]
  refine Ev.step (f := fun k => ((oublietteref03_pieces.f k a).bind fun t328 => ((oublietteref03_pieces.f k b).bind fun t331 => (oublietteref03_Cmp.l0 k t328 t331 0)))) (fun k => ?_) ?_
  · rw [oublietteref03_Cmp.j0, if_neg (by decide)]
  · refine Ev.bind (rpieces_ev a ha) ?_
    refine Ev.bind (rpieces_ev b hb) ?_
    exact cmp_go (Nm.pieces a) (Nm.pieces b) (by have := Nm.pieces_le a; omega) (by have := Nm.pieces_le b; omega) (Nm.pieces a) 0 rfl (Nat.zero_le _) (Nat.zero_le _)
theorem ahead_ev (a b : ByteArray) (ha : a.size ≤ 1000000) (hb : b.size ≤ 1000000) : Ev (fun k => oublietteref31_ahead.f k a b) (decide (orderI a b < 0)) := by
  unfold oublietteref31_ahead.f
  refine Ev.bind (right_ev a ha) ?_
  refine Ev.bind (right_ev b hb) ?_
  unfold orderI
  cases hra : Nm.rightB a <;> cases hrb : Nm.rightB b
  · simp only [bne_self_eq_false, Bool.false_eq_true, if_false, Bool.and_false]
    have : decide (cmpS a b < 0) = Op.bytesLess a.toList b.toList := by
      unfold cmpS
      cases Op.bytesLess a.toList b.toList
      · simp only [Bool.false_eq_true, if_false]
        split <;> simp
      · simp
    rw [this]
    exact Ev.now _
  · simp
    exact Ev.now _
  · simp
    exact Ev.now _
  · simp only [bne_self_eq_false, Bool.false_eq_true, if_false, if_true, Bool.and_true]
    refine Ev.bind (cmp_ev a b ha hb hra hrb) ?_
    exact Ev.now _

/-! ### Names -/
theorem find_mem {n : List ByteArray} {x : ByteArray} (h : x ∈ n) (h0 : x.size ≠ 0) : ∃ j : Nat, findI n x = some j := by
  obtain ⟨k, hk⟩ := List.getElem?_of_mem h
  cases hf : findI n x with
  | none => exact absurd hf (findI_isSome h0 hk)
  | some j => exact ⟨j, rfl⟩
theorem insert_strict {out : List ByteArray} (hs : out.Pairwise (fun x y => orderI x y < 0)) {x : ByteArray} (hx : x ∉ out) (t : Nat) (h1 : ∀ j, (hj : j < out.length) → j < t → orderI out[j] x < 0) (h2 : ∀ (ht : t < out.length), ¬ orderI out[t] x < 0) :
    (out.take t ++ [x] ++ out.drop t).Pairwise (fun x y => orderI x y < 0) := by
  have hpi := List.pairwise_iff_getElem.1 hs
  have hdrop : ∀ y ∈ out.drop t, orderI x y < 0 := by
    intro y hy
    obtain ⟨j, hj, e⟩ := List.getElem_of_mem hy
    rw [List.getElem_drop] at e
    rw [List.length_drop] at hj
    have ht : t < out.length := by omega
    have hxt : orderI x out[t] < 0 := by
      have hn := h2 ht
      have hne : orderI out[t] x ≠ 0 := fun e => hx (by rw [← (order_tc.eq _ _).1 e]; exact List.getElem_mem ht)
      have := order_tc.anti x out[t]
      omega
    subst e
    rcases Nat.eq_zero_or_pos j with h0 | h0
    · subst h0; exact hxt
    · exact order_tc.trans _ _ _ hxt (hpi t (t + j) ht (by omega) (by omega))
  have htake : ∀ y ∈ out.take t, orderI y x < 0 := by
    intro y hy
    obtain ⟨j, hj, e⟩ := List.getElem_of_mem hy
    rw [List.getElem_take] at e
    rw [List.length_take] at hj
    subst e
    exact h1 j (by omega) (by omega)
  rw [List.append_assoc, List.pairwise_append]
  refine ⟨hs.sublist (List.take_sublist _ _), ?_, ?_⟩
  · rw [List.singleton_append, List.pairwise_cons]
    exact ⟨hdrop, hs.sublist (List.drop_sublist _ _)⟩
  · intro a ha b hb
    rcases List.mem_cons.1 hb with rfl | hb
    · exact htake a ha
    · exact order_tc.trans _ _ _ (htake a ha) (hdrop b hb)

theorem insert_l0 (x0 out : List ByteArray) (i t : Nat) (x : ByteArray) (hx : rdOf ByteArray.empty x0 (i : Int) = x) (hi : i < x0.length) (hl : x0.length ≤ 1000000) (ho : out.length ≤ i) (ht : t ≤ out.length) (n : List ByteArray)
    (h : Ev (fun k => oublietteref31_Names.l0 k x0 (out.take t ++ [x] ++ out.drop t) ((i + 1 : Nat) : Int)) n) (hstop : t < out.length → Ev (fun k => oublietteref31_ahead.f k (rdOf ByteArray.empty out (t : Int)) x) false) : Ev (fun k => oublietteref31_Names.l1 k x0 out (i : Int) (t : Int)) n := by
  have e1 : ∀ k, (if (t : Int) ≤ (out.length : Int) then ((some (out.take ((t : Int)).toNat : List ByteArray)).bind fun y350 => (if ([] : List ByteArray).length + y350.length < 8796093022208 then ((some ([] ++ y350 : List ByteArray)).bind fun y354 => (if y354.length < 8796093022208 then ((some (y354 ++ [rdOf ByteArray.empty x0 (i : Int)] : List ByteArray)).bind fun y358 => ((some (out.drop ((t : Int)).toNat : List ByteArray)).bind fun y361 => (if y358.length + y361.length < 8796093022208 then (oublietteref31_Names.l0 k x0 (y358 ++ y361) (wrap64 ((i : Int) + 1))) else (none)))) else (none))) else (none))) else (none)) = oublietteref31_Names.l0 k x0 (out.take t ++ [x] ++ out.drop t) ((i + 1 : Nat) : Int) := fun k => by
    rw [if_pos (by omega)]
    simp only [Option.bind_some, Int.toNat_natCast, List.nil_append, List.length_nil, Nat.zero_add]
    rw [if_pos (by rw [List.length_take]; omega), if_pos (by rw [List.length_take]; omega), if_pos (by simp only [List.length_append, List.length_take, List.length_drop, List.length_cons, List.length_nil]; omega), hx, wrap_in _ (by omega)]
    congr 1
  by_cases hlt : t < out.length
  · refine Ev.step (f := fun k => ((oublietteref31_ahead.f k (rdOf ByteArray.empty out (t : Int)) x).bind fun t346 => (if t346 = true then (oublietteref31_Names.l1 k x0 out (i : Int) (wrap64 ((t : Int) + 1))) else (oublietteref31_Names.l0 k x0 (out.take t ++ [x] ++ out.drop t) ((i + 1 : Nat) : Int))))) (fun k => ?_) ?_
    · rw [oublietteref31_Names.l1, if_pos (by omega), if_pos (by omega), if_pos (by omega), if_pos (by omega), hx]
      congr 1
      funext b
      cases b
      · simp only [Bool.false_eq_true, if_false]
        have := e1 k
        rw [hx] at this
        exact this
      · rfl
    · refine Ev.bind (hstop hlt) ?_
      simp only [Bool.false_eq_true, if_false]
      exact h
  · refine Ev.step (f := fun k => (oublietteref31_Names.l0 k x0 (out.take t ++ [x] ++ out.drop t) ((i + 1 : Nat) : Int))) (fun k => ?_) h
    rw [oublietteref31_Names.l1, if_neg (by omega)]
    simp only [Option.bind_some]
    rw [if_pos (by omega), if_pos (by omega)]
    simp only [Int.toNat_natCast, List.nil_append, List.length_nil, Nat.zero_add]
    rw [if_pos (by rw [List.length_take]; omega), if_pos (by omega), if_pos (by omega), if_pos (by rw [List.length_take]; omega), if_pos (by simp only [List.length_append, List.length_take, List.length_drop, List.length_cons, List.length_nil]; omega), hx, wrap_in _ (by omega)]
    congr 1

theorem names_l1 (x0 out : List ByteArray) (i : Nat) (x : ByteArray) (hx : rdOf ByteArray.empty x0 (i : Int) = x) (hi : i < x0.length) (hl : x0.length ≤ 1000000) (ho : out.length ≤ i) (hxs : x.size ≤ 1000000) (hos : ∀ y ∈ out, y.size ≤ 1000000)
    (hs : out.Pairwise (fun x y => orderI x y < 0)) (hxo : x ∉ out) (Q : List ByteArray → Prop)
    (h : ∀ o, o.Pairwise (fun x y => orderI x y < 0) → o.length = out.length + 1 → (∀ y, y ∈ o ↔ y = x ∨ y ∈ out) → ∃ n, Ev (fun k => oublietteref31_Names.l0 k x0 o ((i + 1 : Nat) : Int)) n ∧ Q n) :
    ∀ (d t : Nat), t + d = out.length → (∀ j, (hj : j < out.length) → j < t → orderI out[j] x < 0) → ∃ n, Ev (fun k => oublietteref31_Names.l1 k x0 out (i : Int) (t : Int)) n ∧ Q n := by
  intro d
  induction d with
  | zero =>
    intro t ht hlow
    have hst : ∀ (h : t < out.length), ¬ orderI out[t] x < 0 := fun h => by omega
    obtain ⟨n, hn, hq⟩ := h _ (insert_strict hs hxo t hlow hst) (by simp only [List.length_append, List.length_take, List.length_drop, List.length_cons, List.length_nil]; omega) (fun y => by
      rw [List.append_assoc, List.mem_append, List.singleton_append, List.mem_cons]
      conv => rhs; rw [← List.take_append_drop t out, List.mem_append]
      constructor
      · rintro (a | a | a)
        · exact .inr (.inl a)
        · exact .inl a
        · exact .inr (.inr a)
      · rintro (a | a | a)
        · exact .inr (.inl a)
        · exact .inl a
        · exact .inr (.inr a))
    exact ⟨n, insert_l0 x0 out i t x hx hi hl ho (by omega) n hn (fun hh => by omega), hq⟩
  | succ d ih =>
    intro t ht hlow
    have htl : t < out.length := by omega
    have hrd : rdOf ByteArray.empty out (t : Int) = out[t] := by rw [rdOf, Int.toNat_natCast, List.getD_eq_getElem?_getD, List.getElem?_eq_getElem htl]; rfl
    have hah := ahead_ev out[t] x (hos _ (List.getElem_mem htl)) hxs
    by_cases hc : orderI out[t] x < 0
    · rw [decide_eq_true hc] at hah
      obtain ⟨n, hn, hq⟩ := ih (t + 1) (by omega) (fun j hj hjt => by
        rcases Nat.lt_or_ge j t with h | h
        · exact hlow j hj h
        · have : j = t := by omega
          subst this; exact hc)
      refine ⟨n, ?_, hq⟩
      obtain ⟨K1, h1⟩ := hah
      obtain ⟨K2, h2⟩ := hn
      refine ⟨max K1 K2 + 1, fun k hk => ?_⟩
      obtain ⟨m, rfl⟩ : ∃ m, k = m + 1 := ⟨k - 1, by omega⟩
      have e1 := h1 m (by omega)
      have e2 := h2 m (by omega)
      simp only at e1 e2
      simp only
      rw [oublietteref31_Names.l1, if_pos (by omega), if_pos (by omega), if_pos (by omega), if_pos (by omega), hx, hrd, e1]
      simp only [Option.bind_some, if_true]
      rw [wrap_in _ (by omega)]
      exact e2
    · rw [decide_eq_false hc] at hah
      obtain ⟨n, hn, hq⟩ := h _ (insert_strict hs hxo t hlow (fun _ => hc)) (by simp only [List.length_append, List.length_take, List.length_drop, List.length_cons, List.length_nil]; omega) (fun y => by
        rw [List.append_assoc, List.mem_append, List.singleton_append, List.mem_cons]
        conv => rhs; rw [← List.take_append_drop t out, List.mem_append]
        constructor
        · rintro (a | a | a)
          · exact .inr (.inl a)
          · exact .inl a
          · exact .inr (.inr a)
        · rintro (a | a | a)
          · exact .inr (.inl a)
          · exact .inl a
          · exact .inr (.inr a))
      exact ⟨n, insert_l0 x0 out i t x hx hi hl ho (by omega) n hn (fun _ => by rw [hrd]; exact hah), hq⟩

theorem rnames_go (x0 : List ByteArray) (hl : x0.length ≤ 1000000) (hsz : ∀ y ∈ x0, y.size ≤ 100) : ∀ (d i : Nat) (out : List ByteArray), i + d = x0.length → out.length ≤ i → out.Pairwise (fun x y => orderI x y < 0) → (∀ y, y ∈ out ↔ y ∈ x0.take i ∧ y.size ≠ 0) →
    ∃ n, Ev (fun k => oublietteref31_Names.l0 k x0 out (i : Int)) n ∧ (n.Pairwise (fun x y => orderI x y < 0) ∧ ∀ y, y ∈ n ↔ y ∈ x0 ∧ y.size ≠ 0) := by
  intro d
  induction d with
  | zero =>
    intro i out hi ho hs hm
    refine ⟨out, ?_, hs, fun y => by rw [hm, List.take_of_length_le (by omega)]⟩
    refine Ev.step (f := fun k => some out) (fun k => ?_) (Ev.now _)
    rw [oublietteref31_Names.l0, if_neg (by omega)]
  | succ d ih =>
    intro i out hi ho hs hm
    have hil : i < x0.length := by omega
    have hrd : rdOf ByteArray.empty x0 (i : Int) = x0[i] := by rw [rdOf, Int.toNat_natCast, List.getD_eq_getElem?_getD, List.getElem?_eq_getElem hil]; rfl
    have htk : x0.take (i + 1) = x0.take i ++ [x0[i]] := List.take_succ_eq_append_getElem hil
    have hxm : x0[i] ∈ x0 := List.getElem_mem hil
    obtain ⟨x, hx⟩ : ∃ x, x0[i] = x := ⟨_, rfl⟩
    rw [hx] at hrd htk hxm
    have hos : ∀ y ∈ out, y.size ≤ 1000000 := fun y hy => by have := hsz y (List.mem_of_mem_take ((hm y).1 hy).1); omega
    -- skip
    have hskip : (∀ y, y ∈ out ↔ y ∈ x0.take (i + 1) ∧ y.size ≠ 0) → ∃ n, Ev (fun k => oublietteref31_Names.j1 k x0 out (i : Int) true) n ∧ (n.Pairwise (fun x y => orderI x y < 0) ∧ ∀ y, y ∈ n ↔ y ∈ x0 ∧ y.size ≠ 0) := fun h => by
      obtain ⟨n, hn, hq⟩ := ih (i + 1) out (by omega) (by omega) hs h
      refine ⟨n, Ev.step (f := fun k => oublietteref31_Names.l0 k x0 out ((i + 1 : Nat) : Int)) (fun k => ?_) hn, hq⟩
      rw [oublietteref31_Names.j1, if_pos rfl, wrap_in _ (by omega)]; rfl
    by_cases h0 : x.size = 0
    · obtain ⟨n, hn, hq⟩ := hskip (fun y => by
        rw [hm, htk, List.mem_append, List.mem_singleton]
        constructor
        · rintro ⟨a, b⟩; exact ⟨.inl a, b⟩
        · rintro ⟨a | a, b⟩
          · exact ⟨a, b⟩
          · subst a; exact absurd h0 b)
      refine ⟨n, Ev.step (f := fun k => oublietteref31_Names.j1 k x0 out (i : Int) true) (fun k => ?_) hn, hq⟩
      rw [oublietteref31_Names.l0, if_pos (by omega), if_pos (by omega), hrd, if_pos (toList_nil.2 h0)]
    · have hl0 : ∀ n, Ev (fun k => oublietteref31_Names.j1 k x0 out (i : Int) (decide (idxI (findI out x) ≥ 0))) n → Ev (fun k => oublietteref31_Names.l0 k x0 out (i : Int)) n := fun n hn => by
        refine Ev.step (f := fun k => (oublietteref31_Find.f k out x).bind fun t343 => (oublietteref31_Names.j1 k x0 out (i : Int) (decide (t343 ≥ 0)))) (fun k => ?_) (Ev.bind (rfind_ev out x (by omega)) hn)
        rw [oublietteref31_Names.l0, if_pos (by omega), if_pos (by omega), hrd, if_neg (fun e => h0 (toList_nil.1 e))]
      by_cases hxo : x ∈ out
      · obtain ⟨j, hj⟩ := find_mem hxo h0
        obtain ⟨n, hn, hq⟩ := hskip (fun y => by
          rw [hm, htk, List.mem_append, List.mem_singleton]
          constructor
          · rintro ⟨a, b⟩; exact ⟨.inl a, b⟩
          · rintro ⟨a | a, b⟩
            · exact ⟨a, b⟩
            · subst a; exact ⟨((hm _).1 hxo).1, b⟩)
        refine ⟨n, hl0 n ?_, hq⟩
        rw [hj, decide_eq_true (by simp only [idxI]; omega)]
        exact hn
      · have hf : findI out x = none := by
          cases hf : findI out x with
          | none => rfl
          | some j => exact absurd (List.mem_of_getElem? (findI_some hf).2) hxo
        obtain ⟨n, hn, hq⟩ := names_l1 x0 out i x hrd hil hl ho (by have := hsz x hxm; omega) hos hs hxo (fun n => n.Pairwise (fun x y => orderI x y < 0) ∧ ∀ y, y ∈ n ↔ y ∈ x0 ∧ y.size ≠ 0) (fun o ho1 ho2 ho3 => ih (i + 1) o (by omega) (by omega) ho1 (fun y => by
          rw [ho3, hm, htk, List.mem_append, List.mem_singleton]
          constructor
          · rintro (a | ⟨a, b⟩)
            · subst a; exact ⟨.inr rfl, h0⟩
            · exact ⟨.inl a, b⟩
          · rintro ⟨a | a, b⟩
            · exact .inr ⟨a, b⟩
            · exact .inl a)) out.length 0 (by omega) (fun j _ h => absurd h (Nat.not_lt_zero _))
        refine ⟨n, hl0 n ?_, hq⟩
        rw [hf, decide_eq_false (by simp only [idxI]; omega)]
        refine Ev.step (f := fun k => oublietteref31_Names.l1 k x0 out (i : Int) 0) (fun k => ?_) hn
        rw [oublietteref31_Names.j1, if_neg (by decide)]

/-- The reference's names. -/
theorem rnames_any (A : Option Addr) (c : Nat) (hs : List ByteArray) (w : World) (hr : Kd.C Kd.string w A hs.length hs) (hc : hs.length ≤ c) (hb : hs.length ≤ 1000000) (h100 : ∀ x ∈ hs, x.size ≤ 100) :
    Calls Tryz.prog 13 #[.slice A hs.length c] w fun e w' => ∃ v n, e = .returned v ∧ Kd.string.R 9 w' w.heap.size (fun _ => True) v n ∧ (n.Pairwise (fun x y => orderI x y < 0) ∧ ∀ y, y ∈ n ↔ y ∈ hs ∧ y.size ≠ 0) ∧ Below w.heap.size w w' := by
  obtain ⟨n, hn, hq⟩ := rnames_go hs hb h100 hs.length 0 [] (by omega) (by simp) List.Pairwise.nil (fun y => by simp)
  obtain ⟨k, hk⟩ := hn.rounds
  refine (oublietteref31_Names.calls k A c hs n w hr hc hk).mono ?_
  rintro e w' ⟨v, rfl, hR, hB⟩
  exact ⟨v, n, rfl, hR, hq, hB⟩
theorem rfind_any (A : Option Addr) (c : Nat) (l : List ByteArray) (s : ByteArray) (w : World) (hr : Kd.C Kd.string w A l.length l) (hc : l.length ≤ c) (hl : l.length ≤ 1000000) :
    Calls Tryz.prog 7 #[.slice A l.length c, .string s] w fun e w' => e = .returned (.int .i64 (idxI (findI l s))) ∧ Drawn0 w w' :=
  oublietteref31_Find.calls _ A c l s _ w hr hc (rfind_f l s hl)
theorem rfree_any (A : Option Addr) (c : Nat) (l : List ByteArray) (w : World) (hr : Kd.C Kd.string w A l.length l) (hc : l.length ≤ c) (hl : l.length ≤ 1000000) :
    Calls Tryz.prog 9 #[.slice A l.length c] w fun e w' => e = .returned (.int .i64 (idxI (freeI l))) ∧ Drawn0 w w' :=
  oublietteref31_Free.calls _ A c l _ w hr hc (rfree_f l hl)
end Go.Proofs.YtmonfmmcgfmeeaaGreatDoor.Lf
