/- A comparison that parts whatever is not one; lists compared by it; what is sorted strictly by it. -/
import Derived.Shelf.SlSortCmp.Insertion
import Derived.Lib.SlicesCompact
namespace Go.Proofs.YtmonfmmcgfmeeaaDoor.Tc
open Go Go.Sort Go.Proofs
set_option linter.unusedVariables false
set_option linter.unusedSimpArgs false

structure TC {α : Type} (c : α → α → Int) : Prop where
  eq : ∀ a b, c a b = 0 ↔ a = b
  anti : ∀ a b, c a b < 0 ↔ 0 < c b a
  trans : ∀ a b d, c a b < 0 → c b d < 0 → c a d < 0

variable {α β : Type}

theorem TC.swo {c : α → α → Int} (h : TC c) : SWO (ltOf c) where
  irrefl x := by have := (h.eq x x).2 rfl; simp [ltOf, this]
  trans x y z h1 h2 := by
    simp only [ltOf, decide_eq_true_eq] at *
    exact h.trans x y z h1 h2
  ntrans x y z h1 h2 := by
    simp only [ltOf, decide_eq_false_iff_not] at *
    intro h3
    have a1 := h.anti x y
    have a2 := h.anti y x
    have a3 := h.anti y z
    have a4 := h.anti z y
    rcases Int.lt_trichotomy (c x y) 0 with e | e | e
    · exact h1 e
    · have := (h.eq x y).1 e
      subst this
      exact h2 h3
    · exact h2 (h.trans y x z (a2.2 e) h3)

theorem TC.parts {c : α → α → Int} (h : TC c) (x y : α) (h1 : ltOf c x y = false) (h2 : ltOf c y x = false) : x = y := by
  simp only [ltOf, decide_eq_false_iff_not] at *
  have := h.anti y x
  exact (h.eq x y).1 (by omega)

theorem TC.comap {c : β → β → Int} (h : TC c) (f : α → β) (hf : ∀ a b, f a = f b → a = b) : TC (fun a b => c (f a) (f b)) where
  eq a b := ⟨fun e => hf a b ((h.eq _ _).1 e), fun e => (h.eq _ _).2 (by rw [e])⟩
  anti a b := h.anti _ _
  trans a b d := h.trans _ _ _

/-- Lists compared, member by member. -/
def lex (c : α → α → Int) : List α → List α → Int
  | [], [] => 0
  | [], _ :: _ => -1
  | _ :: _, [] => 1
  | a :: x, b :: y => if c a b = 0 then lex c x y else c a b

theorem TC.lex {c : α → α → Int} (h : TC c) : TC (lex c) where
  eq := by
    intro a
    induction a with
    | nil => intro b; cases b <;> simp [Tc.lex]
    | cons x r ih =>
      intro b
      cases b with
      | nil => simp [Tc.lex]
      | cons y q =>
        simp only [Tc.lex]
        by_cases e : c x y = 0
        · rw [if_pos e, ih q, (h.eq x y).1 e]; simp
        · rw [if_neg e]
          refine ⟨fun e' => absurd e' e, fun e' => ?_⟩
          simp only [List.cons.injEq] at e'
          exact (h.eq x y).2 e'.1
  anti := by
    intro a
    induction a with
    | nil => intro b; cases b <;> simp [Tc.lex]
    | cons x r ih =>
      intro b
      cases b with
      | nil => simp [Tc.lex]
      | cons y q =>
        simp only [Tc.lex]
        by_cases e : c x y = 0
        · have e2 : c y x = 0 := (h.eq y x).2 ((h.eq x y).1 e).symm
          rw [if_pos e, if_pos e2, ih q]
        · have e2 : ¬ c y x = 0 := fun e2 => e ((h.eq x y).2 ((h.eq y x).1 e2).symm)
          rw [if_neg e, if_neg e2]
          exact h.anti x y
  trans := by
    intro a
    induction a with
    | nil =>
      intro b d h1 h2
      cases d with
      | nil => cases b <;> simp [Tc.lex] at h1 h2
      | cons => simp [Tc.lex]
    | cons x r ih =>
      intro b d h1 h2
      cases b with
      | nil => simp [Tc.lex] at h1
      | cons y q =>
        cases d with
        | nil => simp [Tc.lex] at h2
        | cons z s =>
          simp only [Tc.lex] at *
          by_cases e1 : c x y = 0
          · have := (h.eq x y).1 e1
            subst this
            rw [if_pos e1] at h1
            by_cases e2 : c x z = 0
            · rw [if_pos e2] at h2 ⊢
              exact ih q s h1 h2
            · rw [if_neg e2] at h2 ⊢
              exact h2
          · rw [if_neg e1] at h1
            by_cases e2 : c y z = 0
            · have := (h.eq y z).1 e2
              subst this
              rw [if_neg e1]
              exact h1
            · rw [if_neg e2] at h2
              have h3 := h.trans x y z h1 h2
              rw [if_neg (by omega)]
              exact h3

/-- All that is marked stands behind all that is not; within each, a comparison of its own. -/
theorem TC.split {c d : α → α → Int} (m : α → Bool) (hc : TC c) (hd : ∀ x y, m x = true → m y = true → (d x y = 0 ↔ x = y)) (ha : ∀ x y, m x = true → m y = true → (d x y < 0 ↔ 0 < d y x))
    (ht : ∀ x y z, m x = true → m y = true → m z = true → d x y < 0 → d y z < 0 → d x z < 0) :
    TC (fun x y => if m x && m y then d x y else if m x then 1 else if m y then -1 else c x y) where
  eq x y := by
    by_cases h1 : m x = true <;> by_cases h2 : m y = true
    · simp [h1, h2, hd x y h1 h2]
    · simp only [Bool.not_eq_true] at h2
      simp [h1, h2]; rintro rfl; rw [h1] at h2; cases h2
    · simp only [Bool.not_eq_true] at h1
      simp [h1, h2]; rintro rfl; rw [h1] at h2; cases h2
    · simp only [Bool.not_eq_true] at h1 h2
      simp [h1, h2, hc.eq]
  anti x y := by
    by_cases h1 : m x = true <;> by_cases h2 : m y = true
    · simp [h1, h2, ha x y h1 h2]
    · simp only [Bool.not_eq_true] at h2
      simp [h1, h2]
    · simp only [Bool.not_eq_true] at h1
      simp [h1, h2]
    · simp only [Bool.not_eq_true] at h1 h2
      simp [h1, h2, hc.anti x y]
  trans x y z h1 h2 := by
    by_cases a1 : m x = true <;> by_cases a2 : m y = true <;> by_cases a3 : m z = true <;> simp [a1, a2, a3] at h1 h2 ⊢
    · exact ht x y z a1 a2 a3 h1 h2
    · exact hc.trans x y z h1 h2

/-- Two lists that are sorted strictly and have the same members are one. -/
theorem strict_unique {c : α → α → Int} (h : TC c) : ∀ (a b : List α), a.Pairwise (fun x y => c x y < 0) → b.Pairwise (fun x y => c x y < 0) → (∀ x, x ∈ a ↔ x ∈ b) → a = b
  | [], b, _, _, hm => by
    cases b with
    | nil => rfl
    | cons y q => exact absurd ((hm y).2 (by simp)) (by simp)
  | x :: r, [], _, _, hm => absurd ((hm x).1 (by simp)) (by simp)
  | x :: r, y :: q, ha, hb, hm => by
    rw [List.pairwise_cons] at ha hb
    have irr : ∀ z, ¬ c z z < 0 := fun z e => by have := (h.eq z z).2 rfl; omega
    have e : x = y := by
      rcases List.mem_cons.1 ((hm x).1 (by simp)) with e | e
      · exact e
      · rcases List.mem_cons.1 ((hm y).2 (by simp)) with e' | e'
        · exact e'.symm
        · exact absurd (h.trans x y x (ha.1 y e') (hb.1 x e)) (irr x)
    subst e
    rw [strict_unique h r q ha.2 hb.2 (fun z => ?_)]
    have := hm z
    simp only [List.mem_cons] at this
    refine ⟨fun hz => ?_, fun hz => ?_⟩
    · rcases this.1 (.inr hz) with e | e
      · subst e; exact absurd (ha.1 _ hz) (irr _)
      · exact e
    · rcases this.2 (.inr hz) with e | e
      · subst e; exact absurd (hb.1 _ hz) (irr _)
      · exact e

/-- What a compaction keeps of a sorted row: strictly sorted, the same members, no more than there were. -/
theorem compact_of [DecidableEq α] [Inhabited α] {c : α → α → Int} (h : TC c) (d : Array α) (hs : SortedIn (ltOf c) 0 d.size d) : ∀ m, m ≤ d.size →
    (Lib.compactUpTo d m).Pairwise (fun x y => c x y < 0) ∧ (∀ x, x ∈ Lib.compactUpTo d m ↔ ∃ j, j < m ∧ d[j]! = x) ∧ (Lib.compactUpTo d m).length ≤ m
  | 0, _ => by simp [Lib.compactUpTo]
  | m + 1, hm => by
    obtain ⟨i1, i2, i3⟩ := compact_of h d hs m (by omega)
    rw [Lib.compactUpTo_succ]
    by_cases hk : Lib.keeps d m = true
    · rw [if_pos hk]
      unfold Lib.keeps at hk
      rw [decide_eq_true_eq] at hk
      refine ⟨?_, ?_, ?_⟩
      · rw [List.pairwise_append]
        refine ⟨i1, by simp, ?_⟩
        intro x hx y hy
        simp only [List.mem_singleton] at hy
        subst hy
        obtain ⟨j, hj, rfl⟩ := (i2 x).1 hx
        have hm0 : m ≠ 0 := by omega
        have hne : d[m]! ≠ d[m - 1]! := by rcases hk with e | e; exact absurd e hm0; exact e
        have hle : ∀ i k, i < k → k < d.size → c d[i]! d[k]! ≤ 0 := fun i k h1 h2 => by
          have h3 := hs i k (by omega) h1 h2
          simp only [ltOf, decide_eq_false_iff_not] at h3
          have := h.anti d[k]! d[i]!
          omega
        have h4 : c d[m - 1]! d[m]! < 0 := by
          have h5 := hle (m - 1) m (by omega) (by omega)
          have h6 : c d[m - 1]! d[m]! ≠ 0 := fun e => hne ((h.eq _ _).1 e).symm
          omega
        rcases Nat.lt_or_ge j (m - 1) with hjm | hjm
        · have h5 := hle j (m - 1) hjm (by omega)
          by_cases h6 : c d[j]! d[m - 1]! = 0
          · rw [(h.eq _ _).1 h6]; exact h4
          · exact h.trans _ _ _ (by omega) h4
        · have : j = m - 1 := by omega
          subst this; exact h4
      · intro x
        rw [List.mem_append, i2, List.mem_singleton]
        constructor
        · rintro (⟨j, hj, e⟩ | e)
          · exact ⟨j, by omega, e⟩
          · exact ⟨m, by omega, e.symm⟩
        · rintro ⟨j, hj, e⟩
          rcases Nat.lt_or_ge j m with h1 | h1
          · exact .inl ⟨j, h1, e⟩
          · have : j = m := by omega
            subst this; exact .inr e.symm
      · simp; omega
    · rw [if_neg hk, List.append_nil]
      unfold Lib.keeps at hk
      rw [decide_eq_true_eq] at hk
      have h0 : m ≠ 0 := fun e => hk (.inl e)
      have h1 : d[m]! = d[m - 1]! := Decidable.byContradiction fun e => hk (.inr e)
      refine ⟨i1, fun x => ?_, by omega⟩
      rw [i2]
      constructor
      · rintro ⟨j, hj, e⟩; exact ⟨j, by omega, e⟩
      · rintro ⟨j, hj, e⟩
        rcases Nat.lt_or_ge j m with h2 | h2
        · exact ⟨j, h2, e⟩
        · have : j = m := by omega
          subst this
          exact ⟨j - 1, by omega, by rw [← h1]; exact e⟩
end Go.Proofs.YtmonfmmcgfmeeaaDoor.Tc
