/- The order of heads, as plain law: it parts whatever two texts. -/
import Derived.Test.YtmonfmmcgfmeeaaDoorNm5
import Derived.Test.YtmonfmmcgfmeeaaDoorCp
import Derived.Test.YtmonfmmcgfmeeaaDoorTc
import Derived.Lib.IndexLaws
namespace Go.Proofs.YtmonfmmcgfmeeaaDoor.Lf
open Go.RowKit Go.Proofs.YtmonfmmcgfmeeaaDoor.Tc
set_option linter.unusedVariables false
set_option linter.unusedSimpArgs false

def cu (a b : UInt8) : Int := if a < b then -1 else if a = b then 0 else 1
theorem cu_tc : TC cu where
  eq a b := by
    unfold cu
    constructor
    · intro h
      split at h
      · omega
      · split at h
        · assumption
        · omega
    · rintro rfl
      rw [if_neg (by simp [UInt8.lt_iff_toNat_lt]), if_pos rfl]
  anti a b := by
    unfold cu
    simp only [UInt8.lt_iff_toNat_lt, ← UInt8.toNat_inj]
    split <;> split <;> (try split) <;> (try split) <;> omega
  trans a b d := by
    unfold cu
    simp only [UInt8.lt_iff_toNat_lt, ← UInt8.toNat_inj]
    intro h1 h2
    have a1 : a.toNat < b.toNat := by
      split at h1
      · assumption
      · split at h1 <;> omega
    have a2 : b.toNat < d.toNat := by
      split at h2
      · assumption
      · split at h2 <;> omega
    rw [if_pos (by omega)]; omega

theorem less_lex : ∀ x y : List UInt8, (if Op.bytesLess x y = true then (-1 : Int) else if x = y then 0 else 1) = lex cu x y
  | [], [] => by simp [Op.bytesLess, lex]
  | [], b :: y => by simp [Op.bytesLess, lex]
  | a :: x, [] => by simp [Op.bytesLess, lex]
  | a :: x, b :: y => by
    simp only [Op.bytesLess, lex, List.cons.injEq]
    rw [← less_lex x y]
    by_cases h1 : a < b
    · have h2 : cu a b = -1 := by unfold cu; rw [if_pos h1]
      rw [h2]; simp [h1]
    · by_cases h3 : a = b
      · subst h3
        have h2 : cu a a = 0 := (cu_tc.eq a a).2 rfl
        rw [h2]; simp [h1]
      · have h2 : cu a b = 1 := by unfold cu; rw [if_neg h1, if_neg h3]
        rw [h2]; simp [h1, h3]
theorem cmpS_lex (a b : ByteArray) : cmpS a b = lex cu a.toList b.toList := less_lex _ _
theorem cmpS_tc : TC cmpS := by
  have h := (cu_tc.lex).comap ByteArray.toList (fun a b e => toList_inj e)
  have e : cmpS = fun a b => lex cu a.toList b.toList := by funext a b; exact cmpS_lex a b
  rw [e]; exact h
theorem cmpL_lex : ∀ x y : List ByteArray, cmpL x y = lex cmpS x y
  | [], [] => by simp [cmpL, lex]
  | [], b :: y => by simp [cmpL, lex]
  | a :: x, [] => by simp [cmpL, lex]
  | a :: x, b :: y => by simp only [cmpL, lex]; rw [cmpL_lex x y]
theorem cmpL_tc : TC cmpL := by
  have e : cmpL = lex cmpS := by funext a b; exact cmpL_lex a b
  rw [e]; exact cmpS_tc.lex

/-- The pieces joined again by points. -/
def joinP : List ByteArray → List UInt8
  | [] => []
  | [p] => p.data.toList
  | p :: q :: r => p.data.toList ++ 46 :: joinP (q :: r)
theorem pieces_ne (s : ByteArray) : Nm.pieces s ≠ [] := by
  rcases Nm.index_cases s with h | ⟨i, h⟩
  · rw [Nm.pieces_miss h]; simp
  · rw [(Nm.pieces_hit h).1]; simp
theorem join_pieces : ∀ (n : Nat) (s : ByteArray), s.size ≤ n → joinP (Nm.pieces s) = s.data.toList
  | n, s, hn => by
    rcases Nm.index_cases s with h | ⟨i, h⟩
    · rw [Nm.pieces_miss h]; rfl
    · obtain ⟨h1, h2⟩ := Nm.pieces_hit h
      rw [h1]
      obtain ⟨q, r, e⟩ := List.exists_cons_of_ne_nil (pieces_ne (s.extract (i + 1) s.size))
      rw [e, joinP, ← e]
      cases n with
      | zero => omega
      | succ n =>
        rw [join_pieces n _ (by rw [ByteArray.size_extract]; omega)]
        have h3 := (Lib.indexByte_some h).1
        have hs : s.data.toList.length = s.size := by simp
        have hi : i < s.data.toList.length := by omega
        have e1 : (s.extract 0 i).data.toList = s.data.toList.take i := by
          rw [ByteArray.data_extract, Array.toList_extract]; simp
        have e2 : (s.extract (i + 1) s.size).data.toList = s.data.toList.drop (i + 1) := by
          rw [ByteArray.data_extract, Array.toList_extract, List.extract_eq_take_drop, List.take_of_length_le (by simp)]
        rw [e1, e2]
        rw [List.getElem?_eq_getElem hi] at h3
        obtain h3 := Option.some.inj h3
        rw [← h3, ← List.drop_eq_getElem_cons hi, List.take_append_drop]
theorem pieces_inj (a b : ByteArray) (h : Nm.pieces a = Nm.pieces b) : a = b := by
  have h1 := join_pieces a.size a (Nat.le_refl _)
  have h2 := join_pieces b.size b (Nat.le_refl _)
  rw [h] at h1
  have e : a.data.toList = b.data.toList := h1.symm.trans h2
  cases a; cases b
  simp only at e
  congr 1
  exact Array.toList_inj.1 e

/-- The order of heads. -/
def orderI (a b : ByteArray) : Int := if Nm.rightB a && Nm.rightB b then cmpL (Nm.pieces a) (Nm.pieces b) else if Nm.rightB a then 1 else if Nm.rightB b then -1 else cmpS a b
theorem order_tc : TC orderI := by
  have h := cmpL_tc.comap Nm.pieces pieces_inj
  exact TC.split (d := fun a b => cmpL (Nm.pieces a) (Nm.pieces b)) Nm.rightB cmpS_tc (fun x y _ _ => h.eq x y) (fun x y _ _ => h.anti x y) (fun x y z _ _ _ => h.trans x y z)

/-- Heads that no text's size leaves. -/
abbrev Hd := { x : ByteArray // x.size ≤ 100 }
instance : Inhabited Hd := ⟨⟨⟨#[]⟩, by decide⟩⟩
instance : DecidableEq Hd := inferInstance
def hdEnc (x : Hd) : Value := .string x.1
def hdCmp (x y : Hd) : Int := orderI x.1 y.1
theorem hd_tc : TC hdCmp := order_tc.comap Subtype.val (fun a b e => Subtype.ext e)

/-- What is told of the names of some heads. -/
structure NamesOf (hs n : List ByteArray) : Prop where
  mem : ∀ x, x ∈ n ↔ x ∈ hs ∧ x.size ≠ 0
  strict : n.Pairwise (fun x y => orderI x y < 0)
  len : n.length ≤ (hs.filter (fun x => decide (x.size ≠ 0))).length
theorem NamesOf.unique {hs hs' n n' : List ByteArray} (h : NamesOf hs n) (h' : NamesOf hs' n') (hm : ∀ x, x.size ≠ 0 → (x ∈ hs ↔ x ∈ hs')) : n = n' :=
  strict_unique order_tc n n' h.strict h'.strict (fun x => by
    rw [h.mem, h'.mem]
    constructor
    · rintro ⟨a, b⟩; exact ⟨(hm x b).1 a, b⟩
    · rintro ⟨a, b⟩; exact ⟨(hm x b).2 a, b⟩)
theorem NamesOf.nodup {hs n : List ByteArray} (h : NamesOf hs n) : n.Nodup := by
  rw [List.nodup_iff_pairwise_ne]
  exact h.strict.imp (fun {a b} h1 e => by subst e; have := (order_tc.eq a a).2 rfl; omega)
end Go.Proofs.YtmonfmmcgfmeeaaDoor.Lf
