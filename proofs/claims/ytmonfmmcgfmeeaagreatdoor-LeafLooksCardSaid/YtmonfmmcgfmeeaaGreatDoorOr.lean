/- A comparison that parts whatever is not one; lists compared by it; what is sorted strictly by it. The order of heads, as plain law: it parts whatever two texts. -/
import Derived.Shelf.SlSortCmp.Insertion
import Derived.Lib.SlicesCompact
import Derived.Test.YtmonfmmcgfmeeaaGreatDoorNm5
import Derived.Test.YtmonfmmcgfmeeaaGreatDoorCp
import Derived.Lib.IndexLaws
namespace Go.Proofs.YtmonfmmcgfmeeaaGreatDoor.Tc
open Go Go.Sort Go.Proofs
set_option linter.unusedVariables false
set_option linter.unusedSimpArgs false

structure TC {α : Type} (c : α → α → Int) : Prop where
  eq : ∀ a b, c a b = 0 ↔ a = b
  anti : ∀ a b, c a b < 0 ↔ 0 < c b a
  trans : ∀ a b d, c a b < 0 → c b d < 0 → c a d < 0

variable {α β : Type}

theorem TC.swo {c : α → α → Int} (h : TC c) : SWO (ltOf c) where
  irrefl x := by have := (h.eq x x).2 rfl; simp [ltOf, this]
  trans x y z h1 h2 := by
    simp only [ltOf, decide_eq_true_eq] at *
    exact h.trans x y z h1 h2
  ntrans x y z h1 h2 := by
    simp only [ltOf, decide_eq_false_iff_not] at *
    intro h3
    have a1 := h.anti x y
    have a2 := h.anti y x
    have a3 := h.anti y z
    have a4 := h.anti z y
    rcases Int.lt_trichotomy (c x y) 0 with e | e | e
    · exact h1 e
    · have := (h.eq x y).1 e
      subst this
      exact h2 h3
    · exact h2 (h.trans y x z (a2.2 e) h3)

theorem TC.parts {c : α → α → Int} (h : TC c) (x y : α) (h1 : ltOf c x y = false) (h2 : ltOf c y x = false) : x = y := by
  simp only [ltOf, decide_eq_false_iff_not] at *
  have := h.anti y x
  exact (h.eq x y).1 (by omega)

theorem TC.comap {c : β → β → Int} (h : TC c) (f : α → β) (hf : ∀ a b, f a = f b → a = b) : TC (fun a b => c (f a) (f b)) where
  eq a b := ⟨fun e => hf a b ((h.eq _ _).1 e), fun e => (h.eq _ _).2 (by rw [e])⟩
  anti a b := h.anti _ _
  trans a b d := h.trans _ _ _

/-- Lists compared, member by member. -/
def lex (c : α → α → Int) : List α → List α → Int
  | [], [] => 0
  | [], _ :: _ => -1
  | _ :: _, [] => 1
  | a :: x, b :: y => if c a b = 0 then lex c x y else c a b

theorem TC.lex {c : α → α → Int} (h : TC c) : TC (lex c) where
  eq := by
    intro a
    induction a with
    | nil => intro b; cases b <;> simp [Tc.lex]
    | cons x r ih =>
      intro b
      cases b with
      | nil => simp [Tc.lex]
      | cons y q =>
        simp only [Tc.lex]
        by_cases e : c x y = 0
        · rw [if_pos e, ih q, (h.eq x y).1 e]; simp
        · rw [if_neg e]
          refine ⟨fun e' => absurd e' e, fun e' => ?_⟩
          simp only [List.cons.injEq] at e'
          exact (h.eq x y).2 e'.1
  anti := by
    intro a
    induction a with
    | nil => intro b; cases b <;> simp [Tc.lex]
    | cons x r ih =>
      intro b
      cases b with
      | nil => simp [Tc.lex]
      | cons y q =>
        simp only [Tc.lex]
        by_cases e : c x y = 0
        · have e2 : c y x = 0 := (h.eq y x).2 ((h.eq x y).1 e).symm
          rw [if_pos e, if_pos e2, ih q]
        · have e2 : ¬ c y x = 0 := fun e2 => e ((h.eq x y).2 ((h.eq y x).1 e2).symm)
          rw [if_neg e, if_neg e2]
          exact h.anti x y
  trans := by
    intro a
    induction a with
    | nil =>
      intro b d h1 h2
      cases d with
      | nil => cases b <;> simp [Tc.lex] at h1 h2
      | cons => simp [Tc.lex]
    | cons x r ih =>
      intro b d h1 h2
      cases b with
      | nil => simp [Tc.lex] at h1
      | cons y q =>
        cases d with
        | nil => simp [Tc.lex] at h2
        | cons z s =>
          simp only [Tc.lex] at *
          by_cases e1 : c x y = 0
          · have := (h.eq x y).1 e1
            subst this
            rw [if_pos e1] at h1
            by_cases e2 : c x z = 0
            · rw [if_pos e2] at h2 ⊢
              exact ih q s h1 h2
            · rw [if_neg e2] at h2 ⊢
              exact h2
          · rw [if_neg e1] at h1
            by_cases e2 : c y z = 0
            · have := (h.eq y z).1 e2
              subst this
              rw [if_neg e1]
              exact h1
            · rw [if_neg e2] at h2
              have h3 := h.trans x y z h1 h2
              rw [if_neg (by omega)]
              exact h3

/-- All that is marked stands behind all that is not; within each, a comparison of its own. -/
theorem TC.split {c d : α → α → Int} (m : α → Bool) (hc : TC c) (hd : ∀ x y, m x = true → m y = true → (d x y = 0 ↔ x = y)) (ha : ∀ x y, m x = true → m y = true → (d x y < 0 ↔ 0 < d y x))
    (ht : ∀ x y z, m x = true → m y = true → m z = true → d x y < 0 → d y z < 0 → d x z < 0) :
    TC (fun x y => if m x && m y then d x y else if m x then 1 else if m y then -1 else c x y) where
  eq x y := by
    by_cases h1 : m x = true <;> by_cases h2 : m y = true
    · simp [h1, h2, hd x y h1 h2]
    · simp only [Bool.not_eq_true] at h2
      simp [h1, h2]; rintro rfl; rw [h1] at h2; cases h2
    · simp only [Bool.not_eq_true] at h1
      simp [h1, h2]; rintro rfl; rw [h1] at h2; cases h2
    · simp only [Bool.not_eq_true] at h1 h2
      simp [h1, h2, hc.eq]
  anti x y := by
    by_cases h1 : m x = true <;> by_cases h2 : m y = true
    · simp [h1, h2, ha x y h1 h2]
    · simp only [Bool.not_eq_true] at h2
      simp [h1, h2]
    · simp only [Bool.not_eq_true] at h1
      simp [h1, h2]
    · simp only [Bool.not_eq_true] at h1 h2
      simp [h1, h2, hc.anti x y]
  trans x y z h1 h2 := by
    by_cases a1 : m x = true <;> by_cases a2 : m y = true <;> by_cases a3 : m z = true <;> simp [a1, a2, a3] at h1 h2 ⊢
    · exact ht x y z a1 a2 a3 h1 h2
    · exact hc.trans x y z h1 h2

/-- Two lists that are sorted strictly and have the same members are one. -/
theorem strict_unique {c : α → α → Int} (h : TC c) : ∀ (a b : List α), a.Pairwise (fun x y => c x y < 0) → b.Pairwise (fun x y => c x y < 0) → (∀ x, x ∈ a ↔ x ∈ b) → a = b
  | [], b, _, _, hm => by
    cases b with
    | nil => rfl
    | cons y q => exact absurd ((hm y).2 (by simp)) (by simp)
  | x :: r, [], _, _, hm => absurd ((hm x).1 (by simp)) (by simp)
  | x :: r, y :: q, ha, hb, hm => by
    rw [List.pairwise_cons] at ha hb
    have irr : ∀ z, ¬ c z z < 0 := fun z e => by have := (h.eq z z).2 rfl; omega
    have e : x = y := by
      rcases List.mem_cons.1 ((hm x).1 (by simp)) with e | e
      · exact e
      · rcases List.mem_cons.1 ((hm y).2 (by simp)) with e' | e'
        · exact e'.symm
        · exact absurd (h.trans x y x (ha.1 y e') (hb.1 x e)) (irr x)
    subst e
    rw [strict_unique h r q ha.2 hb.2 (fun z => ?_)]
    have := hm z
    simp only [List.mem_cons] at this
    refine ⟨fun hz => ?_, fun hz => ?_⟩
    · rcases this.1 (.inr hz) with e | e
      · subst e; exact absurd (ha.1 _ hz) (irr _)
      · exact e
    · rcases this.2 (.inr hz) with e | e
      · subst e; exact absurd (hb.1 _ hz) (irr _)
      · exact e

/-- What a compaction keeps of a sorted row: strictly sorted, the same members, no more than there were. -/
theorem compact_of [DecidableEq α] [Inhabited α] {c : α → α → Int} (h : TC c) (d : Array α) (hs : SortedIn (ltOf c) 0 d.size d) : ∀ m, m ≤ d.size →
    (Lib.compactUpTo d m).Pairwise (fun x y => c x y < 0) ∧ (∀ x, x ∈ Lib.compactUpTo d m ↔ ∃ j, j < m ∧ d[j]! = x) ∧ (Lib.compactUpTo d m).length ≤ m
  | 0, _ => by simp [Lib.compactUpTo]
  | m + 1, hm => by
    obtain ⟨i1, i2, i3⟩ := compact_of h d hs m (by omega)
    rw [Lib.compactUpTo_succ]
    by_cases hk : Lib.keeps d m = true
    · rw [if_pos hk]
      unfold Lib.keeps at hk
      rw [decide_eq_true_eq] at hk
      refine ⟨?_, ?_, ?_⟩
      · rw [List.pairwise_append]
        refine ⟨i1, by simp, ?_⟩
        intro x hx y hy
        simp only [List.mem_singleton] at hy
        subst hy
        obtain ⟨j, hj, rfl⟩ := (i2 x).1 hx
        have hm0 : m ≠ 0 := by omega
        have hne : d[m]! ≠ d[m - 1]! := by rcases hk with e | e; exact absurd e hm0; exact e
        have hle : ∀ i k, i < k → k < d.size → c d[i]! d[k]! ≤ 0 := fun i k h1 h2 => by
          have h3 := hs i k (by omega) h1 h2
          simp only [ltOf, decide_eq_false_iff_not] at h3
          have := h.anti d[k]! d[i]!
          omega
        have h4 : c d[m - 1]! d[m]! < 0 := by
          have h5 := hle (m - 1) m (by omega) (by omega)
          have h6 : c d[m - 1]! d[m]! ≠ 0 := fun e => hne ((h.eq _ _).1 e).symm
          omega
        rcases Nat.lt_or_ge j (m - 1) with hjm | hjm
        · have h5 := hle j (m - 1) hjm (by omega)
          by_cases h6 : c d[j]! d[m - 1]! = 0
          · rw [(h.eq _ _).1 h6]; exact h4
          · exact h.trans _ _ _ (by omega) h4
        · have : j = m - 1 := by omega
          subst this; exact h4
      · intro x
        rw [List.mem_append, i2, List.mem_singleton]
        constructor
        · rintro (⟨j, hj, e⟩ | e)
          · exact ⟨j, by omega, e⟩
          · exact ⟨m, by omega, e.symm⟩
        · rintro ⟨j, hj, e⟩
          rcases Nat.lt_or_ge j m with h1 | h1
          · exact .inl ⟨j, h1, e⟩
          · have : j = m := by omega
            subst this; exact .inr e.symm
      · simp; omega
    · rw [if_neg hk, List.append_nil]
      unfold Lib.keeps at hk
      rw [decide_eq_true_eq] at hk
      have h0 : m ≠ 0 := fun e => hk (.inl e)
      have h1 : d[m]! = d[m - 1]! := Decidable.byContradiction fun e => hk (.inr e)
      refine ⟨i1, fun x => ?_, by omega⟩
      rw [i2]
      constructor
      · rintro ⟨j, hj, e⟩; exact ⟨j, by omega, e⟩
      · rintro ⟨j, hj, e⟩
        rcases Nat.lt_or_ge j m with h2 | h2
        · exact ⟨j, h2, e⟩
        · have : j = m := by omega
          subst this
          exact ⟨j - 1, by omega, by rw [← h1]; exact e⟩
end Go.Proofs.YtmonfmmcgfmeeaaGreatDoor.Tc

namespace Go.Proofs.YtmonfmmcgfmeeaaGreatDoor.Lf
open Go.RowKit Go.Proofs.YtmonfmmcgfmeeaaGreatDoor.Tc
set_option linter.unusedVariables false
set_option linter.unusedSimpArgs false

def cu (a b : UInt8) : Int := if a < b then -1 else if a = b then 0 else 1
theorem cu_tc : TC cu where
  eq a b := by
    unfold cu
    constructor
    · intro h
      split at h
      · omega
      · split at h
        · assumption
        · omega
    · rintro rfl
      rw [if_neg (by simp [UInt8.lt_iff_toNat_lt]), if_pos rfl]
  anti a b := by
    unfold cu
    simp only [UInt8.lt_iff_toNat_lt, ← UInt8.toNat_inj]
    split <;> split <;> (try split) <;> (try split) <;> omega
  trans a b d := by
    unfold cu
    simp only [UInt8.lt_iff_toNat_lt, ← UInt8.toNat_inj]
    intro h1 h2
    have a1 : a.toNat < b.toNat := by
      split at h1
      · assumption
      · split at h1 <;> omega
    have a2 : b.toNat < d.toNat := by
      split at h2
      · assumption
      · split at h2 <;> omega
    rw [if_pos (by omega)]; omega

theorem less_lex : ∀ x y : List UInt8, (if Op.bytesLess x y = true then (-1 : Int) else if x = y then 0 else 1) = lex cu x y
  | [], [] => by simp [Op.bytesLess, lex]
  | [], b :: y => by simp [Op.bytesLess, lex]
  | a :: x, [] => by simp [Op.bytesLess, lex]
  | a :: x, b :: y => by
    simp only [Op.bytesLess, lex, List.cons.injEq]
    rw [← less_lex x y]
    by_cases h1 : a < b
    · have h2 : cu a b = -1 := by unfold cu; rw [if_pos h1]
      rw [h2]; simp [h1]
    · by_cases h3 : a = b
      · subst h3
        have h2 : cu a a = 0 := (cu_tc.eq a a).2 rfl
        rw [h2]; simp [h1]
      · have h2 : cu a b = 1 := by unfold cu; rw [if_neg h1, if_neg h3]
        rw [h2]; simp [h1, h3]
theorem cmpS_lex (a b : ByteArray) : cmpS a b = lex cu a.toList b.toList := less_lex _ _
theorem cmpS_tc : TC cmpS := by
  have h := (cu_tc.lex).comap ByteArray.toList (fun a b e => toList_inj e)
  have e : cmpS = fun a b => lex cu a.toList b.toList := by funext a b; exact cmpS_lex a b
  rw [e]; exact h
theorem cmpL_lex : ∀ x y : List ByteArray, cmpL x y = lex cmpS x y
  | [], [] => by simp [cmpL, lex]
  | [], b :: y => by simp [cmpL, lex]
  | a :: x, [] => by simp [cmpL, lex]
  | a :: x, b :: y => by simp only [cmpL, lex]; rw [cmpL_lex x y]
theorem cmpL_tc : TC cmpL := by
  have e : cmpL = lex cmpS := by funext a b; exact cmpL_lex a b
  rw [e]; exact cmpS_tc.lex

/-- The pieces joined again by points. -/
def joinP : List ByteArray → List UInt8
  | [] => []
  | [p] => p.data.toList
  | p :: q :: r => p.data.toList ++ 46 :: joinP (q :: r)
theorem pieces_ne (s : ByteArray) : Nm.pieces s ≠ [] := by
  rcases Nm.index_cases s with h | ⟨i, h⟩
  · rw [Nm.pieces_miss h]; simp
  · rw [(Nm.pieces_hit h).1]; simp
theorem join_pieces : ∀ (n : Nat) (s : ByteArray), s.size ≤ n → joinP (Nm.pieces s) = s.data.toList
  | n, s, hn => by
    rcases Nm.index_cases s with h | ⟨i, h⟩
    · rw [Nm.pieces_miss h]; rfl
    · obtain ⟨h1, h2⟩ := Nm.pieces_hit h
      rw [h1]
      obtain ⟨q, r, e⟩ := List.exists_cons_of_ne_nil (pieces_ne (s.extract (i + 1) s.size))
      rw [e, joinP, ← e]
      cases n with
      | zero => omega
      | succ n =>
        rw [join_pieces n _ (by rw [ByteArray.size_extract]; omega)]
        have h3 := (Lib.indexByte_some h).1
        have hs : s.data.toList.length = s.size := by simp
        have hi : i < s.data.toList.length := by omega
        have e1 : (s.extract 0 i).data.toList = s.data.toList.take i := by
          rw [ByteArray.data_extract, Array.toList_extract]; simp
        have e2 : (s.extract (i + 1) s.size).data.toList = s.data.toList.drop (i + 1) := by
          rw [ByteArray.data_extract, Array.toList_extract, List.extract_eq_take_drop, List.take_of_length_le (by simp)]
        rw [e1, e2]
        rw [List.getElem?_eq_getElem hi] at h3
        obtain h3 := Option.some.inj h3
        rw [← h3, ← List.drop_eq_getElem_cons hi, List.take_append_drop]
theorem pieces_inj (a b : ByteArray) (h : Nm.pieces a = Nm.pieces b) : a = b := by
  have h1 := join_pieces a.size a (Nat.le_refl _)
  have h2 := join_pieces b.size b (Nat.le_refl _)
  rw [h] at h1
  have e : a.data.toList = b.data.toList := h1.symm.trans h2
  cases a; cases b
  simp only at e
  congr 1
  exact Array.toList_inj.1 e

/-- The order of heads. -/
def orderI (a b : ByteArray) : Int := if Nm.rightB a && Nm.rightB b then cmpL (Nm.pieces a) (Nm.pieces b) else if Nm.rightB a then 1 else if Nm.rightB b then -1 else cmpS a b
theorem order_tc : TC orderI := by
  have h := cmpL_tc.comap Nm.pieces pieces_inj
  exact TC.split (d := fun a b => cmpL (Nm.pieces a) (Nm.pieces b)) Nm.rightB cmpS_tc (fun x y _ _ => h.eq x y) (fun x y _ _ => h.anti x y) (fun x y z _ _ _ => h.trans x y z)

/-- Heads that no text's size leaves. -/
abbrev Hd := { x : ByteArray // x.size ≤ 100 }
instance : Inhabited Hd := ⟨⟨⟨#[]⟩, by decide⟩⟩
instance : DecidableEq Hd := inferInstance
def hdEnc (x : Hd) : Value := .string x.1
def hdCmp (x y : Hd) : Int := orderI x.1 y.1
theorem hd_tc : TC hdCmp := order_tc.comap Subtype.val (fun a b e => Subtype.ext e)

/-- What is told of the names of some heads. -/
structure NamesOf (hs n : List ByteArray) : Prop where
  mem : ∀ x, x ∈ n ↔ x ∈ hs ∧ x.size ≠ 0
  strict : n.Pairwise (fun x y => orderI x y < 0)
  len : n.length ≤ (hs.filter (fun x => decide (x.size ≠ 0))).length
theorem NamesOf.unique {hs hs' n n' : List ByteArray} (h : NamesOf hs n) (h' : NamesOf hs' n') (hm : ∀ x, x.size ≠ 0 → (x ∈ hs ↔ x ∈ hs')) : n = n' :=
  strict_unique order_tc n n' h.strict h'.strict (fun x => by
    rw [h.mem, h'.mem]
    constructor
    · rintro ⟨a, b⟩; exact ⟨(hm x b).1 a, b⟩
    · rintro ⟨a, b⟩; exact ⟨(hm x b).2 a, b⟩)
theorem NamesOf.nodup {hs n : List ByteArray} (h : NamesOf hs n) : n.Nodup := by
  rw [List.nodup_iff_pairwise_ne]
  exact h.strict.imp (fun {a b} h1 e => by subst e; have := (order_tc.eq a a).2 rfl; omega)
end Go.Proofs.YtmonfmmcgfmeeaaGreatDoor.Lf
