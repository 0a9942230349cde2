/- Plain law: a plan of changes of names, and what becomes of the names' places. No program in sight. -/
namespace Go.Proofs.YtmonfmmcgfmeeaaGreatDoor.Lf

/-- A change of a name. -/
structure Chg where
  name : ByteArray
  val : List Int
  gone : Bool

def findI (hs : List ByteArray) (s : ByteArray) : Option Nat := if s.size = 0 then none else hs.findIdx? (fun h => decide (h = s))
def freeI (hs : List ByteArray) : Option Nat := hs.findIdx? (fun h => decide (h.size = 0))

/-- One change: the slot and its new head, or the fault. -/
def stepI (right : ByteArray → Bool) (now : List ByteArray) (c : Chg) : Except Int (Nat × ByteArray) :=
  if right c.name = false ∨ (c.gone = false ∧ 350 < c.val.length) then .error 2
  else match findI now c.name with
    | some k => .ok (k, if c.gone = true then ⟨#[]⟩ else c.name)
    | none => if c.gone = true then .error 7 else match freeI now with
      | some k => .ok (k, c.name)
      | none => .error 5

/-- What is kept of a slot's last change: by slots, in the order in which they were first met. -/
def putK {α : Type} (k : Nat) (v : α) : List (Nat × α) → List (Nat × α)
  | [] => [(k, v)]
  | (j, u) :: r => if j = k then (j, v) :: r else (j, u) :: putK k v r

def getK {α : Type} (k : Nat) : List (Nat × α) → Option α
  | [] => none
  | (j, u) :: r => if j = k then some u else getK k r

structure St where
  now : List ByteArray
  last : List (Nat × Chg)

def runI (right : ByteArray → Bool) : St → List Chg → Except Int St
  | s, [] => .ok s
  | s, c :: r => match stepI right s.now c with
    | .error f => .error f
    | .ok (k, h) => runI right ⟨s.now.set k h, putK k c s.last⟩ r

theorem getK_putK {α : Type} (k j : Nat) (v : α) (l : List (Nat × α)) : getK j (putK k v l) = if j = k then some v else getK j l := by
  induction l with
  | nil => simp only [putK, getK]; by_cases h : k = j <;> simp [h, eq_comm]
  | cons p r ih =>
    obtain ⟨i, u⟩ := p
    simp only [putK]
    by_cases h : i = k
    · subst h
      simp only [if_pos, getK]
      by_cases h2 : i = j
      · subst h2; simp
      · rw [if_neg h2, if_neg h2, if_neg (fun e => h2 e.symm)]
    · rw [if_neg h]
      simp only [getK]
      by_cases h2 : i = j
      · subst h2; simp [h]
      · rw [if_neg h2, if_neg h2, ih]

theorem keys_putK {α : Type} (k : Nat) (v : α) (l : List (Nat × α)) : (putK k v l).map (·.1) = if k ∈ l.map (·.1) then l.map (·.1) else l.map (·.1) ++ [k] := by
  induction l with
  | nil => simp [putK]
  | cons p r ih =>
    obtain ⟨i, u⟩ := p
    simp only [putK]
    by_cases h : i = k
    · subst h; simp
    · rw [if_neg h]
      simp only [List.map_cons, ih, List.mem_cons]
      by_cases h2 : k ∈ r.map (·.1)
      · simp [h2]
      · rw [if_neg h2, if_neg (by rintro (e | e); (· exact h e.symm); (· exact h2 e))]; rfl

theorem getK_some {α : Type} {k : Nat} {v : α} {l : List (Nat × α)} (h : getK k l = some v) : (k, v) ∈ l := by
  induction l with
  | nil => simp [getK] at h
  | cons p r ih =>
    obtain ⟨i, u⟩ := p
    simp only [getK] at h
    split at h
    · rename_i e; subst e; injection h with h; subst h; simp
    · exact List.mem_cons_of_mem _ (ih h)

theorem getK_mem {α : Type} {k : Nat} {l : List (Nat × α)} : (∃ v, getK k l = some v) ↔ k ∈ l.map (·.1) := by
  induction l with
  | nil => simp [getK]
  | cons p r ih =>
    obtain ⟨i, u⟩ := p
    simp only [getK, List.map_cons, List.mem_cons]
    by_cases h : i = k
    · subst h; simp
    · rw [if_neg h, ih]
      constructor
      · exact .inr
      · rintro (e | e)
        · exact absurd e.symm h
        · exact e

/-- The head that a slot has behind the last change of it. -/
def headOf (c : Chg) : ByteArray := if c.gone = true then ⟨#[]⟩ else c.name

theorem stepI_ok {right : ByteArray → Bool} {now : List ByteArray} {c : Chg} {k : Nat} {h : ByteArray} (e : stepI right now c = .ok (k, h)) :
    right c.name = true ∧ h = headOf c ∧ k < now.length ∧ (findI now c.name = some k ∨ (findI now c.name = none ∧ c.gone = false ∧ freeI now = some k)) := by
  unfold stepI at e
  split at e
  · cases e
  · rename_i hr
    have hr1 : right c.name = true := by
      cases hq : right c.name
      · exact absurd (.inl hq) hr
      · rfl
    cases hf : findI now c.name with
    | some j =>
      rw [hf] at e
      simp only [Except.ok.injEq, Prod.mk.injEq] at e
      obtain ⟨rfl, rfl⟩ := e
      refine ⟨hr1, rfl, ?_, .inl rfl⟩
      unfold findI at hf
      split at hf
      · cases hf
      · exact (List.findIdx?_eq_some_iff_getElem.1 hf).1
    | none =>
      rw [hf] at e
      cases hg : c.gone with
      | true => simp [hg] at e
      | false =>
        simp only [hg, Bool.false_eq_true, if_false] at e
        cases hq : freeI now with
        | none => simp [hq] at e
        | some j =>
          rw [hq] at e
          simp only [Except.ok.injEq, Prod.mk.injEq] at e
          obtain ⟨rfl, rfl⟩ := e
          refine ⟨hr1, by simp [headOf, hg], (List.findIdx?_eq_some_iff_getElem.1 hq).1, .inr ⟨rfl, rfl, rfl⟩⟩

/-- No name stands twice. -/
def Once (hs : List ByteArray) : Prop := ∀ (i j : Nat) (a : ByteArray), hs[i]? = some a → hs[j]? = some a → a.size ≠ 0 → i = j

theorem once_set {hs : List ByteArray} (h : Once hs) (k : Nat) (a : ByteArray) (ha : a.size = 0 ∨ ∀ j, hs[j]? = some a → j = k) : Once (hs.set k a) := by
  intro i j b hi hj hb
  rw [List.getElem?_set] at hi hj
  by_cases h1 : k = i
  · by_cases h2 : k = j
    · omega
    · rw [if_neg h2] at hj
      subst h1
      rw [if_pos rfl] at hi
      split at hi
      · injection hi with hi
        subst hi
        rcases ha with ha | ha
        · exact absurd ha hb
        · exact absurd (ha j hj) (fun e => h2 e.symm)
      · cases hi
  · rw [if_neg h1] at hi
    by_cases h2 : k = j
    · subst h2
      rw [if_pos rfl] at hj
      split at hj
      · injection hj with hj
        subst hj
        rcases ha with ha | ha
        · exact absurd ha hb
        · exact absurd (ha i hi) (fun e => h1 e.symm)
      · cases hj
    · rw [if_neg h2] at hj
      exact h i j b hi hj hb

theorem findI_some {hs : List ByteArray} {s : ByteArray} {k : Nat} (h : findI hs s = some k) : s.size ≠ 0 ∧ hs[k]? = some s := by
  unfold findI at h
  split at h
  · cases h
  · rename_i hs'
    obtain ⟨hk, h1, _⟩ := List.findIdx?_eq_some_iff_getElem.1 h
    exact ⟨hs', by rw [List.getElem?_eq_getElem hk]; simpa using h1⟩

theorem findI_none {hs : List ByteArray} {s : ByteArray} (h : findI hs s = none) (h0 : s.size ≠ 0) (k : Nat) : hs[k]? ≠ some s := by
  unfold findI at h
  rw [if_neg h0, List.findIdx?_eq_none_iff] at h
  intro hk
  have := h s (List.mem_of_getElem? hk)
  simp at this

theorem findI_isSome {hs : List ByteArray} {s : ByteArray} {k : Nat} (h0 : s.size ≠ 0) (h : hs[k]? = some s) : findI hs s ≠ none := fun e => findI_none e h0 k h

theorem findI_once {hs : List ByteArray} {s : ByteArray} {k : Nat} (h : Once hs) (h0 : s.size ≠ 0) (hk : hs[k]? = some s) : findI hs s = some k := by
  cases hf : findI hs s with
  | none => exact absurd hf (findI_isSome h0 hk)
  | some j =>
    obtain ⟨_, hj⟩ := findI_some hf
    rw [h j k s hj hk h0]

/-- If each name is found where it stands, no name stands twice. -/
theorem once_of {hs : List ByteArray} (h : ∀ (i : Nat) (hi : i < hs.length), (hs[i]).size ≠ 0 → findI hs hs[i] = some i) : Once hs := by
  intro i j a hi hj ha
  obtain ⟨li, ei⟩ := List.getElem?_eq_some_iff.1 hi
  obtain ⟨lj, ej⟩ := List.getElem?_eq_some_iff.1 hj
  have h1 := h i li (by rw [ei]; exact ha)
  have h2 := h j lj (by rw [ej]; exact ha)
  rw [ei] at h1
  rw [ej] at h2
  rw [h1] at h2
  exact Option.some.inj h2

/-- What holds behind any changes: no name twice; each slot's head is what its last change left, else the elder one. -/
structure Inv (right : ByteArray → Bool) (heads : List ByteArray) (s : St) : Prop where
  len : s.now.length = heads.length
  once : Once heads → Once s.now
  nodup : (s.last.map (·.1)).Nodup
  lt : ∀ k ∈ s.last.map (·.1), k < heads.length
  head : ∀ k, s.now[k]? = match getK k s.last with | some c => some (headOf c) | none => heads[k]?
  right : ∀ k c, (k, c) ∈ s.last → right c.name = true

theorem inv_start (right : ByteArray → Bool) (heads : List ByteArray) : Inv right heads ⟨heads, []⟩ := ⟨rfl, id, by simp, by simp, by simp [getK], by simp⟩

theorem mem_putK {α : Type} {k : Nat} {v : α} {l : List (Nat × α)} {p : Nat × α} (h : p ∈ putK k v l) : p = (k, v) ∨ p ∈ l := by
  induction l with
  | nil => simp [putK] at h; exact .inl h
  | cons q r ih =>
    obtain ⟨i, u⟩ := q
    simp only [putK] at h
    split at h
    · rename_i e
      rcases List.mem_cons.1 h with h | h
      · subst e; exact .inl h
      · exact .inr (List.mem_cons_of_mem _ h)
    · rcases List.mem_cons.1 h with h | h
      · exact .inr (by rw [h]; simp)
      · rcases ih h with h | h
        · exact .inl h
        · exact .inr (List.mem_cons_of_mem _ h)

theorem inv_step {right : ByteArray → Bool} {heads : List ByteArray} {s : St} {c : Chg} {k : Nat} {h : ByteArray} (hi : Inv right heads s) (h0 : ∀ n, right n = true → n.size ≠ 0) (e : stepI right s.now c = .ok (k, h)) : Inv right heads ⟨s.now.set k h, putK k c s.last⟩ := by
  obtain ⟨hr, rfl, hk, hw⟩ := stepI_ok e
  have hk' : k < heads.length := by rw [← hi.len]; exact hk
  refine ⟨by simp [hi.len], fun ho => ?_, ?_, ?_, fun j => ?_, fun j d hd => ?_⟩
  · refine once_set (hi.once ho) k _ ?_
    cases hg : c.gone with
    | true => left; simp [headOf, hg]; rfl
    | false =>
      right
      intro j hj
      simp [headOf, hg] at hj
      rcases hw with hw | ⟨hw, _⟩
      · exact hi.once ho j k _ hj (findI_some hw).2 (h0 _ hr)
      · exact absurd hj (findI_none hw (h0 _ hr) j)
  · show ((putK k c s.last).map (·.1)).Nodup
    rw [keys_putK]
    split
    · exact hi.nodup
    · rename_i hm
      exact List.nodup_append.2 ⟨hi.nodup, by simp, by rintro a ha b hb; simp at hb; subst hb; rintro rfl; exact hm ha⟩
  · intro j hj
    have hj' : j ∈ (putK k c s.last).map (·.1) := hj
    rw [keys_putK] at hj'
    split at hj'
    · exact hi.lt j hj'
    · rcases List.mem_append.1 hj' with h | h
      · exact hi.lt j h
      · simp at h; omega
  · show (s.now.set k (headOf c))[j]? = _
    rw [List.getElem?_set]
    simp only [getK_putK]
    by_cases hjk : k = j
    · subst hjk; simp [hk]
    · rw [if_neg hjk, if_neg (fun e => hjk e.symm)]
      exact hi.head j
  · rcases mem_putK hd with h | h
    · injection h with _ h; subst h; exact hr
    · exact hi.right j d h

theorem inv_run {right : ByteArray → Bool} {heads : List ByteArray} (h0 : ∀ n, right n = true → n.size ≠ 0) : ∀ (l : List Chg) (s t : St), Inv right heads s → runI right s l = .ok t → Inv right heads t
  | [], s, t, hi, e => by simp only [runI, Except.ok.injEq] at e; subst e; exact hi
  | c :: r, s, t, hi, e => by
    simp only [runI] at e
    cases hs : stepI right s.now c with
    | error f => rw [hs] at e; cases e
    | ok p =>
      obtain ⟨k, h⟩ := p
      rw [hs] at e
      exact inv_run h0 r _ t (inv_step hi h0 hs) e

/-- A name's being there is as its last change left it. -/
theorem there_step {right : ByteArray → Bool} {s : St} {c : Chg} {k : Nat} {h : ByteArray} (ho : Once s.now) (h0 : ∀ n, right n = true → n.size ≠ 0) (e : stepI right s.now c = .ok (k, h)) :
    (findI (s.now.set k h) c.name = none ↔ c.gone = true) ∧ ∀ n, n ≠ c.name → (findI (s.now.set k h) n = none ↔ findI s.now n = none) := by
  obtain ⟨hr, rfl, hk, hw⟩ := stepI_ok e
  have hn0 := h0 _ hr
  have hget : (s.now.set k (headOf c))[k]? = some (headOf c) := by rw [List.getElem?_set]; simp [hk]
  constructor
  · cases hg : c.gone with
    | false =>
      have hh : headOf c = c.name := by simp [headOf, hg]
      rw [hh] at hget ⊢
      exact ⟨fun h => absurd hget (findI_none h hn0 k), fun h => by cases h⟩
    | true =>
      refine ⟨fun _ => rfl, fun _ => ?_⟩
      have hw' : findI s.now c.name = some k := by
        rcases hw with hw | ⟨_, hq, _⟩
        · exact hw
        · rw [hg] at hq; cases hq
      cases hf : findI (s.now.set k (headOf c)) c.name with
      | none => rfl
      | some j =>
        exfalso
        obtain ⟨_, hj⟩ := findI_some hf
        rw [List.getElem?_set] at hj
        by_cases hjk : k = j
        · subst hjk
          rw [if_pos rfl, if_pos hk] at hj
          injection hj with hj
          have : (headOf c).size = 0 := by simp [headOf, hg]; rfl
          rw [hj] at this
          exact hn0 this
        · rw [if_neg hjk] at hj
          exact hjk (ho k j _ (findI_some hw').2 hj hn0)
  · intro n hn
    by_cases hn1 : n.size = 0
    · simp [findI, hn1]
    · have hold : s.now[k]? ≠ some n := by
        rcases hw with hw | ⟨_, _, hw⟩
        · intro hx
          rw [(findI_some hw).2] at hx
          exact hn (Option.some.inj hx).symm
        · intro hx
          obtain ⟨hl, h1, _⟩ := List.findIdx?_eq_some_iff_getElem.1 hw
          rw [List.getElem?_eq_getElem hl] at hx
          injection hx with hx
          rw [hx] at h1
          exact hn1 (of_decide_eq_true h1)
      have hnew : headOf c ≠ n := by
        intro hx
        unfold headOf at hx
        split at hx
        · subst hx; exact hn1 rfl
        · exact hn hx.symm
      constructor
      · intro h
        cases hf : findI s.now n with
        | none => rfl
        | some j =>
          exfalso
          obtain ⟨_, hj⟩ := findI_some hf
          have hjk : k ≠ j := fun e => hold (e ▸ hj)
          exact findI_none h hn1 j (by rw [List.getElem?_set, if_neg hjk]; exact hj)
      · intro h
        cases hf : findI (s.now.set k (headOf c)) n with
        | none => rfl
        | some j =>
          exfalso
          obtain ⟨_, hj⟩ := findI_some hf
          rw [List.getElem?_set] at hj
          by_cases hjk : k = j
          · subst hjk
            rw [if_pos rfl, if_pos hk] at hj
            exact hnew (Option.some.inj hj)
          · rw [if_neg hjk] at hj
            exact findI_none h hn1 j hj

theorem stays_run {right : ByteArray → Bool} {heads : List ByteArray} (h0 : ∀ n, right n = true → n.size ≠ 0) (n : ByteArray) : ∀ (l : List Chg) (s t : St), Inv right heads s → Once heads → runI right s l = .ok t → (∀ c ∈ l, c.name ≠ n) → (findI t.now n = none ↔ findI s.now n = none)
  | [], s, t, hi, ho, e, _ => by simp only [runI, Except.ok.injEq] at e; subst e; exact Iff.rfl
  | c :: r, s, t, hi, ho, e, hne => by
    simp only [runI] at e
    cases hs : stepI right s.now c with
    | error f => rw [hs] at e; cases e
    | ok p =>
      obtain ⟨k, h⟩ := p
      rw [hs] at e
      exact (stays_run h0 n r _ t (inv_step hi h0 hs) ho e (fun d hd => hne d (List.mem_cons_of_mem _ hd))).trans
        ((there_step (hi.once ho) h0 hs).2 n (fun h => hne c (by simp) h.symm))

/-- Behind a plan a name is there just if its last change put it. -/
theorem last_run {right : ByteArray → Bool} {heads : List ByteArray} (h0 : ∀ n, right n = true → n.size ≠ 0) : ∀ (l : List Chg) (s t : St), Inv right heads s → Once heads → runI right s l = .ok t →
    ∀ (i : Nat) (c : Chg), l[i]? = some c → (∀ j d, i < j → l[j]? = some d → d.name ≠ c.name) → (findI t.now c.name = none ↔ c.gone = true)
  | [], s, t, hi, ho, e, i, c, hc, _ => by simp at hc
  | c :: r, s, t, hi, ho, e, i, d, hd, hlast => by
    simp only [runI] at e
    cases hs : stepI right s.now c with
    | error f => rw [hs] at e; cases e
    | ok p =>
      obtain ⟨k, h⟩ := p
      rw [hs] at e
      have hi' := inv_step hi h0 hs
      cases i with
      | zero =>
        simp at hd
        subst hd
        refine (stays_run h0 c.name r _ t hi' ho e (fun d hd => ?_)).trans (there_step (hi.once ho) h0 hs).1
        obtain ⟨j, hj⟩ := List.getElem?_of_mem hd
        exact hlast (j + 1) d (by omega) (by simpa using hj)
      | succ i =>
        exact last_run h0 r _ t hi' ho e i d (by simpa using hd) (fun j x hij hx => hlast (j + 1) x (by omega) (by simpa using hx))
end Go.Proofs.YtmonfmmcgfmeeaaGreatDoor.Lf
