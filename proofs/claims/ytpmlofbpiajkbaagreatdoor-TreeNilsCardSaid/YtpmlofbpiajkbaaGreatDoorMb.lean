/- A verified interpreter: the heap and the interpreter itself. -/
import Derived.Test.YtpmlofbpiajkbaaGreatDoorMa
import Derived.WalkKit
set_option linter.unusedVariables false
namespace Go.Proofs.YtpmlofbpiajkbaaGreatDoor.M2
open Go
noncomputable section

/-! ## A table by numbers -/
inductive T (α : Type) where
  | leaf
  | node (l : T α) (v : Option α) (r : T α)
@[reducible] def cnd {α : Type} (c : Bool) (t e : α) : α := Bool.rec e t c
theorem cnd_eq {α : Type} (c : Bool) (t e : α) : cnd c t e = if c = true then t else e := by cases c <;> rfl
namespace T
variable {α : Type}
def get (t : T α) : Nat → Option α := T.rec (motive := fun _ => Nat → Option α) (fun _ => none) (fun _ v _ gl gr k => Nat.rec (motive := fun _ => Option α) v (fun k1 _ => Bool.rec (motive := fun _ => Option α) (gr (k1 / 2)) (gl (k1 / 2)) (Nat.beq (k1 % 2) 0)) k) t
def lf : T α → T α
  | leaf => leaf
  | node l _ _ => l
def rt : T α → T α
  | leaf => leaf
  | node _ _ r => r
def here : T α → Option α
  | leaf => none
  | node _ v _ => v
def putF (v : Option α) (n : Nat) : T α → Nat → T α := Nat.rec (motive := fun _ => T α → Nat → T α) (fun t _ => t) (fun _ ih t k =>
    Nat.rec (motive := fun _ => T α) (node t.lf v t.rt) (fun k1 _ => Bool.rec (motive := fun _ => T α) (node t.lf t.here (ih t.rt (k1 / 2))) (node (ih t.lf (k1 / 2)) t.here t.rt) (Nat.beq (k1 % 2) 0)) k) n
def put (t : T α) (k : Nat) (v : Option α) : T α := putF v (k + 1) t k
theorem get_node (l r : T α) (v : Option α) (k : Nat) : (node l v r).get (k + 1) = if k % 2 = 0 then l.get (k / 2) else r.get (k / 2) := by
  have : (node l v r).get (k + 1) = Bool.rec (motive := fun _ => Option α) (r.get (k / 2)) (l.get (k / 2)) (Nat.beq (k % 2) 0) := rfl
  rw [this]
  cases hb : Nat.beq (k % 2) 0 with
  | true => rw [if_pos (Nat.eq_of_beq_eq_true hb)]
  | false => rw [if_neg (Nat.ne_of_beq_eq_false hb)]
theorem get_zero (t : T α) : t.get 0 = t.here := by cases t <;> rfl
theorem get_succ (t : T α) (k : Nat) : t.get (k + 1) = if k % 2 = 0 then t.lf.get (k / 2) else t.rt.get (k / 2) := by
  cases t with
  | leaf => show none = _; split <;> rfl
  | node l v r => exact get_node l r v k
theorem putF_zero (v : Option α) (n : Nat) (t : T α) : putF v (n + 1) t 0 = node t.lf v t.rt := rfl
theorem putF_succ (v : Option α) (n : Nat) (t : T α) (k : Nat) : putF v (n + 1) t (k + 1) = if k % 2 = 0 then node (putF v n t.lf (k / 2)) t.here t.rt else node t.lf t.here (putF v n t.rt (k / 2)) := by
  have : putF v (n + 1) t (k + 1) = Bool.rec (motive := fun _ => T α) (node t.lf t.here (putF v n t.rt (k / 2))) (node (putF v n t.lf (k / 2)) t.here t.rt) (Nat.beq (k % 2) 0) := rfl
  rw [this]
  cases hb : Nat.beq (k % 2) 0 with
  | true => rw [if_pos (Nat.eq_of_beq_eq_true hb)]
  | false => rw [if_neg (Nat.ne_of_beq_eq_false hb)]
theorem get_putF (v : Option α) : ∀ (n : Nat) (t : T α) (k : Nat), k < n → ∀ j, (putF v n t k).get j = if j = k then v else t.get j
  | 0, _, _, h, _ => absurd h (Nat.not_lt_zero _)
  | n + 1, t, 0, _, 0 => by rw [putF_zero, get_zero]; rfl
  | n + 1, t, 0, _, j + 1 => by
    rw [putF_zero, get_node, get_succ t j]
    exact (if_neg (Nat.succ_ne_zero j)).symm
  | n + 1, t, k + 1, h, 0 => by
    rw [putF_succ, if_neg (show ¬ 0 = k + 1 by omega)]
    split <;> (rw [get_zero, get_zero]; rfl)
  | n + 1, t, k + 1, h, j + 1 => by
    have h2 : k / 2 < n := by omega
    rw [putF_succ, get_succ t j]
    by_cases hk : k % 2 = 0
    · rw [if_pos hk, get_node]
      by_cases hj : j % 2 = 0
      · rw [if_pos hj, if_pos hj, get_putF v n _ _ h2]
        by_cases e : j = k
        · subst e; rw [if_pos rfl, if_pos rfl]
        · rw [if_neg (by omega), if_neg (by omega)]
      · rw [if_neg hj, if_neg hj, if_neg (by omega)]
    · rw [if_neg hk, get_node]
      by_cases hj : j % 2 = 0
      · rw [if_pos hj, if_pos hj, if_neg (by omega)]
      · rw [if_neg hj, if_neg hj, get_putF v n _ _ h2]
        by_cases e : j = k
        · subst e; rw [if_pos rfl, if_pos rfl]
        · rw [if_neg (by omega), if_neg (by omega)]
theorem get_put (t : T α) (k : Nat) (v : Option α) (j : Nat) : (t.put k v).get j = if j = k then v else t.get j := get_putF v _ t k (Nat.lt_succ_self k) j
theorem get_put_self (t : T α) (k : Nat) (v : Option α) : (t.put k v).get k = v := by rw [get_put, if_pos rfl]
theorem get_put_ne (t : T α) (k : Nat) (v : Option α) {j : Nat} (h : j ≠ k) : (t.put k v).get j = t.get j := by rw [get_put, if_neg h]
end T

/-! ## The heap -/
inductive AObj where
  | cells (c : List AV)
  | map (es : List (AV × AV × Nat)) (clock : Nat)
  | strIter (s : List Nat) (pos : Nat)
  | mapIter (m : Nat) (since : Nat) (seen : List Nat) (stepped : Nat)
  | loop (st : LoopState) (pe : Option Code) (tmps : T AV) (n : Nat) (params : List Tmp) (assign body : Code) (ds : Nat)
  | defd
  deriving Inhabited
structure AH where
  next : Nat
  h : T AObj
def AH.get (ah : AH) (b : Nat) : Option AObj := ah.h.get b
def AH.set (ah : AH) (b : Nat) (o : AObj) : AH := ⟨ah.next, ah.h.put b (some o)⟩
def AH.kill (ah : AH) (b : Nat) : AH := ⟨ah.next, ah.h.put b none⟩
def AH.new (ah : AH) (o : AObj) : AH := ⟨ah.next + 1, ah.h.put ah.next (some o)⟩

/-- A frame's temporaries. -/
structure FR (φ : Phi) (n : Nat) (tm : T AV) (a : Array Value) : Prop where
  size : a.size = n
  at_ : ∀ t x, tm.get t = some x → VR φ x (a.getD t undef)
theorem FR.mono {φ ψ : Phi} (h : φ.le ψ) {n : Nat} {tm : T AV} {a : Array Value} (k : FR φ n tm a) : FR ψ n tm a := ⟨k.size, fun t x e => (k.at_ t x e).mono h⟩
inductive ERs (φ : Phi) : List (AV × AV × Nat) → List MapEntry → Prop
  | nil : ERs φ [] []
  | cons {k v : AV} {b : Nat} {e : MapEntry} {l : List (AV × AV × Nat)} {r : List MapEntry} (hk : VR φ k e.key) (hv : VR φ v e.val) (hb : e.born = b) (t : ERs φ l r) : ERs φ ((k, v, b) :: l) (e :: r)
inductive OR (φ : Phi) (z : Nat) : AObj → Obj → Prop
  | cells {c : List AV} {c' : Array Value} {t : TypeId} {fr : Nat × Nat} (hs : c'.size = z) (hl : c.length ≤ z) (hc : VRs φ c (c'.toList.take c.length)) (hf : fr.1 = fr.2 ∨ z ≤ fr.1) (h1 : ∀ v ∈ c'.toList.take c.length, v.oneCell' = true) : OR φ z (.cells c) (.cells c' t fr)
  | map {es : List (AV × AV × Nat)} {es' : Array MapEntry} {clock : Nat} (h : ERs φ es es'.toList) : OR φ z (.map es clock) (.map es' clock)
  | strIter (s : ByteArray) (pos : Nat) : OR φ z (.strIter (s.data.toList.map (·.toNat)) pos) (.stringIter s pos)
  | mapIter {m c zc : Nat} (since : Nat) (seen : Array Nat) (stepped : Nat) (h : φ m = some (c, zc)) : OR φ z (.mapIter m since seen.toList stepped) (.mapIter (some c) since seen stepped)
  | loop {st : LoopState} {pe : Option Code} {fn : Nat} {tmps : T AV} {n : Nat} {tmps' : Array Value} {params : Array Tmp} {assign body : Code} {ds dc zd : Nat} (h : FR φ n tmps tmps') (hd : φ ds = some (dc, zd)) :
      OR φ z (.loop st pe tmps n params.toList assign body ds) (.loop { state := st, pending := pe, fn := fn, tmps := tmps', params := params, assign := assign, body := body, defers := dc })
  | defd : OR φ z .defd (.deferred (some []))
theorem frz {fr : Nat × Nat} {z : Nat} (h : fr.1 = fr.2 ∨ z ≤ fr.1) : ∀ i, i < z → ¬ (fr.1 ≤ i ∧ i < fr.2) := fun i hi => by omega
theorem ERs.mono {φ ψ : Phi} (h : φ.le ψ) {l : List (AV × AV × Nat)} {r : List MapEntry} (k : ERs φ l r) : ERs ψ l r := by
  induction k with
  | nil => exact .nil
  | cons hk hv hb t ih => exact .cons (hk.mono h) (hv.mono h) hb ih
theorem OR.mono {φ ψ : Phi} (h : φ.le ψ) {z : Nat} {o : AObj} {o' : Obj} (k : OR φ z o o') : OR ψ z o o' := by
  cases k with
  | cells hs hl hc hf h1 => exact .cells hs hl (hc.mono h) hf h1
  | map e => exact .map (e.mono h)
  | strIter s p => exact .strIter s p
  | mapIter a b c e => exact .mapIter a b c (h _ _ e)
  | loop e d => exact .loop (e.mono h) (h _ _ d)
  | defd => exact .defd
structure HR (φ : Phi) (ah : AH) (w : World) : Prop where
  obj : ∀ b o c z, ah.get b = some o → φ b = some (c, z) → ∃ o', w.heap[c]? = some o' ∧ OR φ z o o'
  inj : ∀ b b2 o o2 c z z2, ah.get b = some o → ah.get b2 = some o2 → φ b = some (c, z) → φ b2 = some (c, z2) → b = b2
  dom : ∀ b c z, φ b = some (c, z) → b < ah.next ∧ c < w.heap.size
/-- What a step keeps: blocks of before that no live name stands for. -/
def Out (φ : Phi) (ah : AH) (w w' : World) : Prop := w.heap.size ≤ w'.heap.size ∧ ∀ c, c < w.heap.size → (∀ b o z, ah.get b = some o → φ b ≠ some (c, z)) → w'.heap[c]? = w.heap[c]?
/-- What lies outside the memory is kept. -/
def Env (w w' : World) : Prop := w'.os = w.os ∧ w'.tape = w.tape ∧ w'.output = w.output
theorem Env.refl (w : World) : Env w w := ⟨rfl, rfl, rfl⟩
theorem Env.trans {w1 w2 w3 : World} (h : Env w1 w2) (k : Env w2 w3) : Env w1 w3 := ⟨k.1.trans h.1, k.2.1.trans h.2.1, k.2.2.trans h.2.2⟩
/-- One step's outcome: names of before stand for what they stood for; the heap is so; what lies outside is kept. -/
structure Stp (φ : Phi) (ah : AH) (w : World) (ψ : Phi) (ah' : AH) (w' : World) : Prop where
  le : φ.le ψ
  old : ∀ b, b < ah.next → ψ b = φ b
  nx : ah.next ≤ ah'.next
  hr : HR ψ ah' w'
  out : Out φ ah w w'
  src : ∀ b o c z, ah'.get b = some o → ψ b = some (c, z) → c < w.heap.size → ∃ b0 o0 z0, ah.get b0 = some o0 ∧ φ b0 = some (c, z0)
  env : Env w w'
theorem Stp.refl {φ : Phi} {ah : AH} {w : World} (h : HR φ ah w) : Stp φ ah w φ ah w :=
  ⟨Phi.le.refl φ, fun _ _ => rfl, Nat.le_refl _, h, ⟨Nat.le_refl _, fun _ _ _ => rfl⟩, fun b o c z hb hc _ => ⟨b, o, z, hb, hc⟩, Env.refl w⟩
theorem Stp.trans {φ ψ χ : Phi} {a1 a2 a3 : AH} {w1 w2 w3 : World} (h : Stp φ a1 w1 ψ a2 w2) (k : Stp ψ a2 w2 χ a3 w3) : Stp φ a1 w1 χ a3 w3 where
  le := h.le.trans k.le
  old := fun b hb => (k.old b (Nat.lt_of_lt_of_le hb h.nx)).trans (h.old b hb)
  nx := Nat.le_trans h.nx k.nx
  hr := k.hr
  out := ⟨Nat.le_trans h.out.1 k.out.1, fun c hc hn => (k.out.2 c (Nat.lt_of_lt_of_le hc h.out.1) (fun b o z hb he => by
    obtain ⟨b0, o0, z0, h1, h2⟩ := h.src b o c z hb he hc
    exact hn b0 o0 z0 h1 h2)).trans (h.out.2 c hc hn)⟩
  src := fun b o c z hb he hc => by
    obtain ⟨b0, o0, z0, h1, h2⟩ := k.src b o c z hb he (Nat.lt_of_lt_of_le hc h.out.1)
    exact h.src b0 o0 c z0 h1 h2 hc
  env := h.env.trans k.env
theorem AH.get_set (ah : AH) (b : Nat) (o : AObj) (j : Nat) : (ah.set b o).get j = if j = b then some o else ah.get j := T.get_put ..
theorem AH.get_kill (ah : AH) (b : Nat) (j : Nat) : (ah.kill b).get j = if j = b then none else ah.get j := T.get_put ..
theorem AH.get_new (ah : AH) (o : AObj) (j : Nat) : (ah.new o).get j = if j = ah.next then some o else ah.get j := T.get_put ..
/-- A name more. -/
def Phi.add (φ : Phi) (b c z : Nat) : Phi := fun j => if j = b then some (c, z) else φ j
theorem HR.none_next {φ : Phi} {ah : AH} {w : World} (h : HR φ ah w) : φ ah.next = none := by
  cases e : φ ah.next with
  | none => rfl
  | some p => exact absurd (h.dom _ p.1 p.2 e).1 (Nat.lt_irrefl _)
theorem Phi.le_add {φ : Phi} {b c z : Nat} (h : φ b = none) : φ.le (φ.add b c z) := fun j p e => by
  unfold Phi.add
  split
  · rename_i hj; subst hj; rw [h] at e; cases e
  · exact e
/-- A block is made. -/
theorem Stp.new {φ : Phi} {ah : AH} {w : World} (h : HR φ ah w) {o : AObj} {o' : Obj} {z : Nat} (ho : OR (φ.add ah.next w.heap.size z) z o o') :
    Stp φ ah w (φ.add ah.next w.heap.size z) (ah.new o) (w.alloc o') := by
  have hle : φ.le (φ.add ah.next w.heap.size z) := Phi.le_add h.none_next
  have hsz : (w.alloc o').heap.size = w.heap.size + 1 := Array.size_push ..
  have hget : ∀ c, c < w.heap.size → (w.alloc o').heap[c]? = w.heap[c]? := fun c hc => by show (w.heap.push o')[c]? = _; rw [Array.getElem?_push, if_neg (Nat.ne_of_lt hc)]
  have hnew : (w.alloc o').heap[w.heap.size]? = some o' := by show (w.heap.push o')[w.heap.size]? = _; rw [Array.getElem?_push, if_pos rfl]
  have hphi : ∀ b c z', φ.add ah.next w.heap.size z b = some (c, z') → (b = ah.next ∧ c = w.heap.size ∧ z' = z) ∨ (b ≠ ah.next ∧ φ b = some (c, z') ∧ c < w.heap.size) := by
    intro b c z' e
    unfold Phi.add at e
    split at e
    · rename_i hb; cases e; exact .inl ⟨hb, rfl, rfl⟩
    · rename_i hb; exact .inr ⟨hb, e, (h.dom _ _ _ e).2⟩
  refine ⟨hle, fun b hb => ?_, Nat.le_succ _, ⟨?_, ?_, ?_⟩, ⟨by omega, fun c hc _ => hget c hc⟩, ?_, ⟨rfl, rfl, rfl⟩⟩
  · unfold Phi.add; rw [if_neg (by omega)]
  · intro b ob c z' hb e
    rw [AH.get_new] at hb
    rcases hphi b c z' e with ⟨rfl, rfl, rfl⟩ | ⟨hne, e2, hc⟩
    · rw [if_pos rfl] at hb; cases hb
      exact ⟨o', hnew, ho⟩
    · rw [if_neg hne] at hb
      obtain ⟨o2, h1, h2⟩ := h.obj b ob c z' hb e2
      exact ⟨o2, (hget c hc).trans h1, h2.mono hle⟩
  · intro b b2 ob ob2 c z1 z2 hb hb2 e1 e2
    rw [AH.get_new] at hb hb2
    rcases hphi b c z1 e1 with ⟨rfl, rfl, rfl⟩ | ⟨hne, f1, hc⟩ <;> rcases hphi b2 _ z2 e2 with ⟨rfl, hcc, rfl⟩ | ⟨hne2, f2, hc2⟩
    · rfl
    · exact absurd hc2 (Nat.lt_irrefl _)
    · subst hcc; exact absurd hc (Nat.lt_irrefl _)
    · rw [if_neg hne] at hb; rw [if_neg hne2] at hb2
      exact h.inj b b2 ob ob2 c z1 z2 hb hb2 f1 f2
  · intro b c z' e
    rcases hphi b c z' e with ⟨rfl, rfl, rfl⟩ | ⟨hne, f1, hc⟩
    · exact ⟨Nat.lt_succ_self _, by omega⟩
    · exact ⟨Nat.lt_succ_of_lt (h.dom _ _ _ f1).1, by omega⟩
  · intro b ob c z' hb e hc
    rw [AH.get_new] at hb
    rcases hphi b c z' e with ⟨rfl, rfl, rfl⟩ | ⟨hne, f1, hc2⟩
    · exact absurd hc (Nat.lt_irrefl _)
    · rw [if_neg hne] at hb; exact ⟨b, ob, z', hb, f1⟩
/-- A block's contents turn. -/
theorem Stp.turn {φ : Phi} {ah : AH} {w w' : World} (h : HR φ ah w) {b c z : Nat} {o1 o : AObj} {o' : Obj} (hb : ah.get b = some o1) (hc : φ b = some (c, z))
    (hw : w'.heap.size = w.heap.size) (hk : ∀ j, j ≠ c → w'.heap[j]? = w.heap[j]?) (hn : w'.heap[c]? = some o') (ho : OR φ z o o') (hv : Env w w' := by exact ⟨rfl, rfl, rfl⟩) : Stp φ ah w φ (ah.set b o) w' := by
  refine ⟨Phi.le.refl φ, fun _ _ => rfl, Nat.le_refl _, ⟨?_, ?_, ?_⟩, ⟨by omega, fun j hj hne => hk j (fun e => hne b o1 z hb (by rw [hc, e]))⟩, ?_, hv⟩
  · intro b2 ob c2 z2 hb2 e
    rw [AH.get_set] at hb2
    by_cases hbb : b2 = b
    · subst hbb; rw [if_pos rfl] at hb2; cases hb2
      rw [hc] at e; cases e
      exact ⟨o', hn, ho⟩
    · rw [if_neg hbb] at hb2
      have hcc : c2 ≠ c := fun e2 => hbb (h.inj b2 b ob o1 c2 z2 z hb2 hb e (e2 ▸ hc))
      obtain ⟨o2, h1, h2⟩ := h.obj b2 ob c2 z2 hb2 e
      exact ⟨o2, (hk c2 hcc).trans h1, h2⟩
  · intro b2 b3 ob2 ob3 c2 z2 z3 hb2 hb3 e2 e3
    rw [AH.get_set] at hb2 hb3
    have g2 : ∃ o2, ah.get b2 = some o2 := by
      by_cases hbb : b2 = b
      · subst hbb; exact ⟨o1, hb⟩
      · rw [if_neg hbb] at hb2; exact ⟨_, hb2⟩
    have g3 : ∃ o2, ah.get b3 = some o2 := by
      by_cases hbb : b3 = b
      · subst hbb; exact ⟨o1, hb⟩
      · rw [if_neg hbb] at hb3; exact ⟨_, hb3⟩
    obtain ⟨p2, g2⟩ := g2
    obtain ⟨p3, g3⟩ := g3
    exact h.inj b2 b3 p2 p3 c2 z2 z3 g2 g3 e2 e3
  · intro b2 c2 z2 e
    have := h.dom b2 c2 z2 e
    exact ⟨this.1, by omega⟩
  · intro b2 ob c2 z2 hb2 e _
    rw [AH.get_set] at hb2
    by_cases hbb : b2 = b
    · subst hbb; exact ⟨b2, o1, z2, hb, e⟩
    · rw [if_neg hbb] at hb2; exact ⟨b2, ob, z2, hb2, e⟩
/-- A name dies. -/
theorem Stp.kill {φ : Phi} {ah : AH} {w : World} (h : HR φ ah w) (b : Nat) : Stp φ ah w φ (ah.kill b) w := by
  have g : ∀ j o, (ah.kill b).get j = some o → ah.get j = some o := fun j o e => by
    rw [AH.get_kill] at e
    split at e
    · cases e
    · exact e
  exact ⟨Phi.le.refl φ, fun _ _ => rfl, Nat.le_refl _, ⟨fun j o c z e => h.obj j o c z (g j o e), fun j j2 o o2 c z z2 e e2 => h.inj j j2 o o2 c z z2 (g j o e) (g j2 o2 e2), h.dom⟩,
    ⟨Nat.le_refl _, fun _ _ _ => rfl⟩, fun j o c z e e2 _ => ⟨j, o, z, g j o e, e2⟩, Env.refl w⟩
/-- A block's contents turn, and its name: what had the old name is not to be read any more. -/
theorem Stp.inplace {φ : Phi} {ah : AH} {w w' : World} (h : HR φ ah w) {b c z : Nat} {o1 o : AObj} {o' : Obj} (hb : ah.get b = some o1) (hc : φ b = some (c, z))
    (hw : w'.heap.size = w.heap.size) (hk : ∀ j, j ≠ c → w'.heap[j]? = w.heap[j]?) (hn : w'.heap[c]? = some o') (ho : OR (φ.add ah.next c z) z o o') (hv : Env w w' := by exact ⟨rfl, rfl, rfl⟩) :
    Stp φ ah w (φ.add ah.next c z) ((ah.kill b).new o) w' := by
  have hle : φ.le (φ.add ah.next c z) := Phi.le_add h.none_next
  have hlt := h.dom b c z hc
  have hphi : ∀ b2 c2 z', φ.add ah.next c z b2 = some (c2, z') → (b2 = ah.next ∧ c2 = c ∧ z' = z) ∨ (b2 ≠ ah.next ∧ φ b2 = some (c2, z')) := by
    intro b2 c2 z' e
    unfold Phi.add at e
    split at e
    · rename_i hb; cases e; exact .inl ⟨hb, rfl, rfl⟩
    · rename_i hb; exact .inr ⟨hb, e⟩
  have g : ∀ j ob, j ≠ ah.next → ((ah.kill b).new o).get j = some ob → j ≠ b ∧ ah.get j = some ob := fun j ob hj e => by
    rw [AH.get_new, if_neg (show j ≠ (ah.kill b).next from hj), AH.get_kill] at e
    split at e
    · cases e
    · rename_i hjb; exact ⟨hjb, e⟩
  have gn : ((ah.kill b).new o).get ah.next = some o := by rw [AH.get_new]; exact if_pos rfl
  refine ⟨hle, fun j hj => ?_, Nat.le_succ _, ⟨?_, ?_, ?_⟩, ⟨by omega, fun j hj hne => hk j (fun e => hne b o1 z hb (by rw [hc, e]))⟩, ?_, hv⟩
  · unfold Phi.add; rw [if_neg (by omega)]
  · intro b2 ob c2 z2 hb2 e
    rcases hphi b2 c2 z2 e with ⟨rfl, rfl, rfl⟩ | ⟨hne, e2⟩
    · rw [gn] at hb2; cases hb2; exact ⟨o', hn, ho⟩
    · obtain ⟨hbb, hb2⟩ := g b2 ob hne hb2
      have hcc : c2 ≠ c := fun e3 => hbb (h.inj b2 b ob o1 c2 z2 z hb2 hb e2 (e3 ▸ hc))
      obtain ⟨o2, h1, h2⟩ := h.obj b2 ob c2 z2 hb2 e2
      exact ⟨o2, (hk c2 hcc).trans h1, h2.mono hle⟩
  · intro b2 b3 ob2 ob3 c2 z2 z3 hb2 hb3 e2 e3
    rcases hphi b2 c2 z2 e2 with ⟨rfl, rfl, rfl⟩ | ⟨hne, f2⟩ <;> rcases hphi b3 c2 z3 e3 with ⟨rfl, hcc, rfl⟩ | ⟨hne3, f3⟩
    · rfl
    · obtain ⟨hbb, hb3⟩ := g b3 ob3 hne3 hb3
      exact absurd (h.inj b3 b ob3 o1 c2 z3 z2 hb3 hb f3 hc) hbb
    · subst hcc
      obtain ⟨hbb, hb2⟩ := g b2 ob2 hne hb2
      exact absurd (h.inj b2 b ob2 o1 c2 z2 z3 hb2 hb f2 hc) hbb
    · exact h.inj b2 b3 ob2 ob3 c2 z2 z3 (g b2 ob2 hne hb2).2 (g b3 ob3 hne3 hb3).2 f2 f3
  · intro b2 c2 z2 e
    rcases hphi b2 c2 z2 e with ⟨rfl, rfl, rfl⟩ | ⟨hne, f2⟩
    · exact ⟨Nat.lt_succ_self _, by omega⟩
    · have := h.dom b2 c2 z2 f2
      exact ⟨Nat.lt_succ_of_lt this.1, by omega⟩
  · intro b2 ob c2 z2 hb2 e _
    rcases hphi b2 c2 z2 e with ⟨rfl, rfl, rfl⟩ | ⟨hne, f2⟩
    · exact ⟨b, o1, z2, hb, hc⟩
    · exact ⟨b2, ob, z2, (g b2 ob hne hb2).2, f2⟩
end
end Go.Proofs.YtpmlofbpiajkbaaGreatDoor.M2
