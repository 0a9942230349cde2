/- A verified interpreter: runs in parts. -/
import Derived.Test.YtpmlofbpiajkbaaGreatDoorMt
set_option linter.unusedVariables false
namespace Go.Proofs.YtpmlofbpiajkbaaGreatDoor.M2
open Go
noncomputable section
/-! ### Tables out of lists -/
inductive AllR {α : Type} (p : Nat → α → Prop) : List (Nat × α) → Prop
  | nil : AllR p []
  | cons {i : Nat} {d : α} {l : List (Nat × α)} (h : p i d) (t : AllR p l) : AllR p ((i, d) :: l)
theorem AllR.get {α : Type} {p : Nat → α → Prop} {l : List (Nat × α)} (h : AllR p l) {i : Nat} {d : α} (hm : (i, d) ∈ l) : p i d := by
  induction h with
  | nil => cases hm
  | cons h t ih =>
    rcases List.mem_cons.1 hm with e | hm
    · cases e; exact h
    · exact ih hm
def mkT {α : Type} : List (Nat × α) → T α → T α
  | [], t => t
  | (i, d) :: l, t => mkT l (t.put i (some d))
theorem mkT_get {α : Type} : ∀ (l : List (Nat × α)) (t : T α) {i : Nat} {d : α}, (mkT l t).get i = some d → (i, d) ∈ l ∨ t.get i = some d
  | [], t, i, d, h => .inr h
  | (j, e) :: l, t, i, d, h => by
    rcases mkT_get l _ h with h | h
    · exact .inl (List.mem_cons_of_mem _ h)
    · rw [T.get_put] at h
      split at h
      · rename_i hij; cases h; subst hij; exact .inl (List.mem_cons_self ..)
      · exact .inr h
theorem mkT_mem {α : Type} {l : List (Nat × α)} {t : T α} (e : mkT l .leaf = t) {i : Nat} {d : α} (h : t.get i = some d) : (i, d) ∈ l := by
  subst e
  rcases mkT_get l _ h with h | h
  · exact h
  · cases h
/-! ### Heaps that are told -/
def mapsEq : List (AV × AV × Nat) → List (AV × AV × Nat) → Bool
  | [], [] => true
  | (k, v, b) :: l, (k2, v2, b2) :: r => cnd (avEq k k2 && (avEq v v2 && Nat.beq b b2)) (mapsEq l r) false
  | _, _ => false
theorem mapsEq_eq : ∀ (l r : List (AV × AV × Nat)), mapsEq l r = true → l = r
  | [], [], _ => rfl
  | [], _ :: _, h => by cases h
  | _ :: _, [], h => by cases h
  | (k, v, b) :: l, (k2, v2, b2) :: r, h => by
    unfold mapsEq at h
    rw [cnd_eq] at h
    split at h
    · rename_i hb
      rw [Bool.and_eq_true, Bool.and_eq_true] at hb
      rw [avEq_eq _ _ hb.1, avEq_eq _ _ hb.2.1, Nat.eq_of_beq_eq_true hb.2.2, mapsEq_eq l r h]
    · cases h
def objEq : Option AObj → AObj → Bool
  | some (.cells a), .cells b => avsEq a b
  | some (.map a c), .map b d => mapsEq a b && Nat.beq c d
  | _, _ => false
theorem objEq_eq {a : Option AObj} {b : AObj} (h : objEq a b = true) : a = some b := by
  unfold objEq at h
  split at h
  · rw [avsEq_eq _ _ h]
  · rw [Bool.and_eq_true] at h
    rw [mapsEq_eq _ _ h.1, Nat.eq_of_beq_eq_true h.2]
  · cases h
def hasL (h : T AObj) : List (Nat × AObj) → Bool
  | [] => true
  | (b, o) :: l => cnd (objEq (h.get b) o) (hasL h l) false
theorem hasL_ok (h : T AObj) : ∀ (l : List (Nat × AObj)), hasL h l = true → ∀ b o, (b, o) ∈ l → h.get b = some o
  | [], _, b, o, hm => by cases hm
  | (b2, o2) :: l, e, b, o, hm => by
    unfold hasL at e
    rw [cnd_eq] at e
    split at e
    · rename_i he
      rcases List.mem_cons.1 hm with h1 | h1
      · cases h1; exact objEq_eq he
      · exact hasL_ok h l e b o h1
    · cases e
/-- A heap that is told: its next name, and what its blocks hold. -/
def mkH (n : Nat) (l : List (Nat × AObj)) : AH := ⟨n, mkT l .leaf⟩
def chkH (ah : AH) (n : Nat) (l : List (Nat × AObj)) : Bool :=
  match ah with
  | ⟨m, h⟩ => cnd (Nat.beq m n) (hasL h l) false
theorem chkH_ok {ah : AH} {n : Nat} {l : List (Nat × AObj)} (h : chkH ah n l = true) : ah.next = n ∧ ∀ b o, (mkH n l).get b = some o → ah.get b = some o := by
  obtain ⟨m, t⟩ := ah
  unfold chkH at h
  simp only [cnd_eq] at h
  split at h
  · rename_i hn
    exact ⟨Nat.eq_of_beq_eq_true hn, fun b o e => hasL_ok t l h b o (mkT_mem rfl e)⟩
  · cases h
theorem Stp.forget {φ : Phi} {ah ah2 : AH} {w : World} (h : HR φ ah w) (hn : ah2.next = ah.next) (hs : ∀ b o, ah2.get b = some o → ah.get b = some o) : Stp φ ah w φ ah2 w :=
  ⟨Phi.le.refl φ, fun _ _ => rfl, Nat.le_of_eq hn.symm, ⟨fun b o c z hb => h.obj b o c z (hs b o hb), fun b b2 o o2 c z z2 hb hb2 => h.inj b b2 o o2 c z z2 (hs b o hb) (hs b2 o2 hb2), fun b c z e => by rw [hn]; exact h.dom b c z e⟩,
    ⟨Nat.le_refl _, fun _ _ _ => rfl⟩, fun b o c z hb e _ => ⟨b, o, z, hs b o hb, e⟩, Env.refl w⟩
/-- What a run comes to, as it is told. -/
def chkR (r : Option Res) (v : AV) (n : Nat) (l : List (Nat × AObj)) : Bool :=
  match r with
  | some (.val u ah) => cnd (avEq u v) (chkH ah n l) false
  | _ => false
theorem chkR_ok {r : Option Res} {v : AV} {n : Nat} {l : List (Nat × AObj)} (h : chkR r v n l = true) : ∃ ah, r = some (.val v ah) ∧ ah.next = n ∧ ∀ b o, (mkH n l).get b = some o → ah.get b = some o := by
  unfold chkR at h
  split at h
  · rename_i u ah
    rw [cnd_eq] at h
    split at h
    · rename_i he
      have := avEq_eq _ _ he
      subst this
      exact ⟨ah, rfl, chkH_ok h⟩
    · cases h
  · cases h
/-- A part: a function called so, in such a heap, comes to such a value and such a heap. -/
def partG (args : List AV) (n0 : Nat) (l0 : List (Nat × AObj)) (v : AV) (n1 : Nat) (l1 : List (Nat × AObj)) (as : List AV) (ah : AH) : Option (AV × AH) :=
  cnd (avsEq as args) (cnd (chkH ah n0 l0) (some (v, mkH n1 l1)) none) none
theorem part_ok {C : Cfg} (hC : CfgOk C) {m f : Nat} {args : List AV} {n0 n1 : Nat} {l0 l1 : List (Nat × AObj)} {v : AV} (h : chkR (runJ C m (.call f args (mkH n0 l0))) v n1 l1 = true)
    {as : List AV} {ah ah' : AH} {u : AV} (e : partG args n0 l0 v n1 l1 as ah = some (u, ah')) : CallOk C.P C.base f as ah u ah' := by
  unfold partG at e
  rw [cnd_eq] at e
  split at e
  · rename_i ha
    have ha := avsEq_eq _ _ ha
    subst ha
    rw [cnd_eq] at e
    split at e
    · rename_i hh
      cases e
      obtain ⟨k1, k2⟩ := chkH_ok hh
      obtain ⟨ah2, r1, r2, r3⟩ := chkR_ok h
      have hcall : CallOk C.P C.base f as (mkH n0 l0) v ah2 := (runJ_ok hC m _ _ r1).1
      intro φ w args' hB hr hv
      have hf := Stp.forget (ah2 := mkH n0 l0) hr k1.symm k2
      have fin : ∀ {ψ : Phi} {w' : World}, Stp φ (mkH n0 l0) w ψ ah2 w' → Stp φ ah w ψ (mkH n1 l1) w' := fun k => (hf.trans k).trans (Stp.forget k.hr r2.symm r3)
      rcases hcall φ w args' hB hf.hr hv with ⟨v', w', q1, ψ, q2, q3⟩ | ⟨q1, q2⟩
      · exact .inl ⟨v', w', q1, ψ, fin q2, q3⟩
      · refine .inr ⟨q1, CallsIn.mono q2 ?_⟩
        intro en w' he
        cases en with
        | returned v' => obtain ⟨ψ, q2, q3⟩ := he; exact ⟨ψ, fin q2, q3⟩
        | _ => exact he.elim
    · cases e
  · cases e
/-! ### Rows, told shortly -/
def bt (l : List Nat) (r : List AV) : List AV := l.map (fun n => AV.int .u8 (Int.ofNat n)) ++ r
def rp (n : Nat) (x : AV) (r : List AV) : List AV := List.replicate n x ++ r
def zs (n : Nat) (r : List AV) : List AV := List.replicate n (AV.int .u8 0) ++ r
end
end Go.Proofs.YtpmlofbpiajkbaaGreatDoor.M2
