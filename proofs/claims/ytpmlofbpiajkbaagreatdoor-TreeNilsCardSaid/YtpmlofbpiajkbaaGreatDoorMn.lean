/- A verified interpreter: what it says of operations in order is so. -/
import Derived.Test.YtpmlofbpiajkbaaGreatDoorMm
import Derived.RangeFuncLeaves
import Derived.OrdersIn
set_option linter.unusedVariables false
set_option linter.unusedSimpArgs false
namespace Go.Proofs.YtpmlofbpiajkbaaGreatDoor.M2
open Go
/-- A function was entered, and comes to its end so. -/
def EnterR (P : Program) (f : Nat) (args : Array Value) (w : World) (R : Value → World → Prop) : Prop :=
  (callFunc f args).run P w = .ok (.enter f args) w ∧ CallsIn Fence.wide 0 P f args w fun e w' => match e with
    | .returned v => R v w'
    | _ => False
def CallR (P : Program) (f : Nat) (args : Array Value) (w : World) (R : Value → World → Prop) : Prop :=
  (∃ v w', (callFunc f args).run P w = .ok (.value v) w' ∧ R v w') ∨ EnterR P f args w R
def CallOk (P : Program) (B : Phi) (f : Nat) (args : List AV) (ah : AH) (v : AV) (ah' : AH) : Prop :=
  ∀ (φ : Phi) (w : World) (args' : Array Value), B.le φ → HR φ ah w → VRs φ args args'.toList → CallR P f args' w fun v' w' => ∃ ψ, Stp φ ah w ψ ah' w' ∧ VR ψ v v'
def EnterOk (P : Program) (B : Phi) (f : Nat) (args : List AV) (ah : AH) (v : AV) (ah' : AH) : Prop :=
  ∀ (φ : Phi) (w : World) (args' : Array Value), B.le φ → HR φ ah w → VRs φ args args'.toList → EnterR P f args' w fun v' w' => ∃ ψ, Stp φ ah w ψ ah' w' ∧ VR ψ v v'
theorem EnterOk.call {P : Program} {B : Phi} {f : Nat} {args : List AV} {ah : AH} {v : AV} {ah' : AH} (h : EnterOk P B f args ah v ah') : CallOk P B f args ah v ah' := fun φ w args' hb hr hv => .inr (h φ w args' hb hr hv)
def RoundOk (P : Program) (B : Phi) (l : Nat) (args : List AV) (ah : AH) (v : AV) (ah' : AH) : Prop :=
  ∀ (φ : Phi) (w : World) (args' : Array Value) (c z : Nat), B.le φ → HR φ ah w → φ l = some (c, z) → VRs φ args args'.toList →
    ∃ f tmps assign body, (Instr.yield c args').run P w = .ok (.round c f tmps assign body) w ∧ RoundIn Fence.wide 0 P c f tmps assign body w fun e w' => match e with
      | .returned v' => ∃ ψ, Stp φ ah w ψ ah' w' ∧ VR ψ v v'
      | _ => False
/-- What is asked of the parts that are not run. -/
structure CfgOk (C : Cfg) : Prop where
  hund : C.und = C.P.underlying
  hinf : C.inf = C.P.info?
  hfns : ∀ f fn, C.fns f = some fn → C.P.funcs[f]? = some fn
  mixed : C.P.follows .mixedOrders = true
  hst : ∀ t, kOk t = true → C.P.stoodInHeld t = false
  name : ∀ (f : Nat) fn c, C.P.funcs[f]? = some fn → fn.body = some c → (fn.name == "runtime.NumGoroutine") = false
  orc : ∀ f g, C.orc f = some g → ∀ args ah v ah', g args ah = some (v, ah') → CallOk C.P C.base f args ah v ah'
  noop : ∀ f, C.noop f = true → ∀ (args' cap' : Array Value) (w : World), (invoke (.fn (.func f) cap') args').run C.P w = .ok (.enter f (args' ++ cap')) w ∧
    CallsDIn Fence.wide 0 C.P f (args' ++ cap') .returning w fun e u w' => match e with
      | .returned _ => settle u = .returning ∧ w' = w
      | _ => False
inductive Wide (F : Fence) : Prop
  | wide (h : F = Fence.wide)
  | round (c : Nat) (h : F = Fence.wide.inRound c)
theorem Wide.fn {F : Fence} (h : Wide F) (f : Nat) : F.fn f := by cases h <;> (rename_i h; subst h; trivial)
theorem Wide.depth {F : Fence} (h : Wide F) : F.depth = none := by cases h <;> (rename_i h; subst h; rfl)
theorem Wide.calls {F : Fence} (h : Wide F) {n : Nat} {P : Program} {f : Nat} {args : Array Value} {w : World} {R : Ending → World → Prop} (k : CallsIn Fence.wide n P f args w R) : CallsIn F n P f args w R := by
  cases h <;> (rename_i h; subst h; exact k)
theorem Wide.rounds {F : Fence} (h : Wide F) {n : Nat} {P : Program} {l f : Nat} {tmps : Array Value} {assign body : Code} {w : World} {R : Ending → World → Prop} (k : RoundIn Fence.wide n P l f tmps assign body w R) : RoundIn F n P l f tmps assign body w R := by
  cases h <;> (rename_i h; subst h; exact k)
inductive DRs (φ : Phi) : List ADef → List Deferred → Prop
  | nil : DRs φ [] []
  | cons {d : ADef} {d' : Deferred} {l : List ADef} {r : List Deferred} (h : DR1 φ d d') (t : DRs φ l r) : DRs φ (d :: l) (d' :: r)
theorem DR1.mono {φ ψ : Phi} (h : φ.le ψ) {d : ADef} {d' : Deferred} (k : DR1 φ d d') : DR1 ψ d d' := by
  cases k with
  | call a b => exact .call (a.mono h) (b.mono h)
  | collected a => exact .collected (h _ _ a)
theorem DRs.mono {φ ψ : Phi} (h : φ.le ψ) {l : List ADef} {r : List Deferred} (k : DRs φ l r) : DRs ψ l r := by
  induction k with
  | nil => exact .nil
  | cons a t ih => exact .cons (a.mono h) ih
/-- A frame is so. -/
structure AR (φ : Phi) (fr : Fr) (a : Act) : Prop where
  tm : FR φ fr.n fr.tmps a.tmps
  ds : DRs φ fr.ds a.defers
theorem AR.mono {φ ψ : Phi} (h : φ.le ψ) {fr : Fr} {a : Act} (k : AR φ fr a) : AR ψ fr a := ⟨k.tm.mono h, k.ds.mono h⟩
section
variable {φ : Phi} {ah : AH} {w : World}
theorem FR.put {n : Nat} {tm : T AV} {a : Array Value} (h : FR φ n tm a) {d : Nat} {v : AV} {v' : Value} (hd : d < n) (hv : VR φ v v') : FR φ n (tm.put d (some v)) (a.setIfInBounds d v') := by
  refine ⟨by rw [Array.size_setIfInBounds, h.size], fun t x e => ?_⟩
  rw [T.get_put] at e
  split at e
  · rename_i hj
    cases e
    subst hj
    have : (a.setIfInBounds t v').getD t undef = v' := by
      rw [Array.getD_eq_getD_getElem?, Array.getElem?_setIfInBounds_self_of_lt (by rw [h.size]; exact hd)]; rfl
    rw [this]; exact hv
  · rename_i hj
    have : (a.setIfInBounds d v').getD t undef = a.getD t undef := by
      rw [Array.getD_eq_getD_getElem?, Array.getD_eq_getD_getElem?, Array.getElem?_setIfInBounds_ne (fun he => hj he.symm)]
    rw [this]; exact h.at_ t x e
theorem AR.put {fr : Fr} {a : Act} (h : AR φ fr a) (dst : Option Tmp) {v : AV} {v' : Value} (hv : VR φ v v') : AR φ (fr.put dst v) (a.put dst v') := by
  obtain ⟨tm, n, ds⟩ := fr
  cases dst with
  | none => exact h
  | some d =>
    show AR φ (cnd (Nat.blt d n) ⟨tm.put d (some v), n, ds⟩ ⟨tm, n, ds⟩) _
    rw [cnd_eq]
    split
    · rename_i hb
      exact ⟨h.tm.put (by simpa [Nat.blt_eq] using hb) hv, h.ds⟩
    · rename_i hb
      have hb : ¬ d < n := by simpa [Nat.blt_eq] using hb
      have hs : a.tmps.setIfInBounds d v' = a.tmps := Array.setIfInBounds_eq_of_size_le (by have hs : a.tmps.size = n := h.tm.size; rw [hs]; exact Nat.le_of_not_lt hb)
      refine ⟨?_, h.ds⟩
      show FR φ n tm (a.tmps.setIfInBounds d v')
      rw [hs]; exact h.tm
theorem wantA_ok {ops : Array Oper} {n : Nat} {tm : T AV} {a : Array Value} (h : FR φ n tm a) {o : Oper} {b : Bool} (e : wantA ops.toList tm o = some b) : Region.wanted o (yielded ops a) = b := by
  unfold wantA at e
  unfold Region.wanted
  split at e
  · rename_i hg; cases e; rw [hg]
  · rename_i j want hg
    rw [hg]
    simp only []
    unfold wantT at e
    split at e
    · rename_i o2 ho2
      rw [Array.getElem?_toList] at ho2
      split at e
      · rename_i t ht
        have hy : yielded ops a j = match a[t]? with | some (.bool b) => some b | _ => none := by
          unfold yielded
          rw [ho2]
          simp only [Option.bind_some, ht]
          rfl
        rw [hy]
        unfold wantV at e
        split at e
        · rename_i b2 hb
          cases e
          have := h.at_ t _ hb
          have hlt : t < a.size := by
            rcases Nat.lt_or_ge t a.size with hlt | hge
            · exact hlt
            · rw [Array.getD_eq_getD_getElem?, Array.getElem?_eq_none hge] at this
              cases this
          rw [Array.getD_eq_getD_getElem?, Array.getElem?_eq_getElem hlt] at this
          rw [Array.getElem?_eq_getElem hlt]
          simp only [Option.getD_some] at this
          generalize a[t] = u at this
          cases this
          cases b2 <;> cases want <;> rfl
        · rename_i hb
          cases e
          have := h.at_ t _ hb
          rw [Array.getD_eq_getD_getElem?] at this
          cases hu : a[t]? with
          | none => rfl
          | some u =>
            rw [hu] at this
            simp only [Option.getD_some] at this
            cases this
            rfl
        · cases e
      · cases e
    · cases e
end
section
variable {C : Cfg} {rec : Job → Option Res} (hC : CfgOk C)
  (hcall : ∀ f args ah v ah', rec (.call f args ah) = some (.val v ah') → CallOk C.P C.base f args ah v ah')
  (hround : ∀ l args ah v ah', rec (.round l args ah) = some (.val v ah') → RoundOk C.P C.base l args ah v ah')
include hC hcall hround
/-- An operation that is no defer statement. -/
theorem doA_ok {φ : Phi} {ah ah' : AH} {w : World} {F : Fence} (hb : C.base.le φ) (hF : Wide F) (h : HR φ ah w) {n : Nat} {tm : T AV} {a : Act} (hf : FR φ n tm a.tmps) {o : Oper} {v : AV} (e : doA C rec tm ah o = some (v, ah'))
    {next : Act → World → Prop} {Q : Exit → Act → World → Prop} (hn : ∀ ψ v' w', Stp φ ah w ψ ah' w' → VR ψ v v' → next (a.put o.dst v') w') : o.wpIn F 0 C.P a w next Q := by
  refine ⟨fun f _ => hF.fn f, ?_⟩
  unfold doA at e
  cases hr : opA C.und C.inf tm ah o with
  | none => rw [hr] at e; cases e
  | some r =>
    rw [hr] at e
    have hr9 := hr
    rw [hC.hund, hC.hinf] at hr9
    have hok := opA_ok hC.hst h hf hr9
    have hnd : ∀ c, o.op ≠ .defer c := by
      intro c hc
      have hr2 : opA2 C.und C.inf tm ah o.op = some r := hr
      rw [hc] at hr2
      have hr2 : oDefer tm c = some r := hr2
      have : ∃ d, r = .defer d := by
        unfold oDefer at hr2
        split at hr2
        · obtain ⟨l, h1, hr2⟩ := onL_some hr2
          obtain ⟨u, h2, hr2⟩ := on1_some hr2
          unfold oDefer2 at hr2
          split at hr2
          · cases hr2; exact ⟨_, rfl⟩
          · cases hr2
        · cases hr2
      obtain ⟨d, rfl⟩ := this
      cases e
    rw [Oper.semAt_eq _ _ _ hnd]
    cases r with
    | val v1 a1 =>
      cases e
      obtain ⟨ψ, v', w', h1, h2, h3⟩ := hok
      rw [h1]
      exact hn ψ v' w' h2 h3
    | skip a1 =>
      cases e
      obtain ⟨ψ, w', h1, h2⟩ := hok
      rw [h1]
      exact hn ψ undef w' h2 (VR.und ψ)
    | call f args =>
      obtain ⟨args', h1, h2⟩ := hok
      have e : resV (rec (.call f args ah)) = some (v, ah') := e
      unfold resV at e
      split at e
      · rename_i v1 a1 hres
        cases e
        rw [h2]
        rcases hcall f args ah v ah' hres φ w args' hb h h1 with ⟨v', w', k1, ψ, k2, k3⟩ | ⟨k1, k2⟩
        · rw [k1]; exact hn ψ v' w' k2 k3
        · rw [k1]
          refine ⟨fun hd => (by rw [hF.depth] at hd; cases hd), hF.calls (CallsIn.mono k2 ?_)⟩
          intro e w' he
          cases e with
          | returned v' => obtain ⟨ψ, k2, k3⟩ := he; exact hn ψ v' w' k2 k3
          | _ => exact he.elim
      · cases e
    | yield l args =>
      obtain ⟨c, z, args', h0, h1, h2⟩ := hok
      have e : resV (rec (.round l args ah)) = some (v, ah') := e
      unfold resV at e
      split at e
      · rename_i v1 a1 hres
        cases e
        rw [h2]
        obtain ⟨f, tmps, assign, body, k1, k2⟩ := hround l args ah v ah' hres φ w args' c z hb h h0 h1
        rw [k1]
        refine ⟨fun hd => (by rw [hF.depth] at hd; cases hd), hF.rounds (RoundIn.mono k2 ?_)⟩
        intro e w' he
        cases e with
        | returned v' => obtain ⟨ψ, k2, k3⟩ := he; exact hn ψ v' w' k2 k3
        | _ => exact he.elim
      · cases e
    | defer d => cases e
/-- How a fence goes with a job's round. -/
def FenceR (B φ : Phi) : Option Nat → Fence → Prop
  | none, F => B.le φ ∧ F = Fence.wide
  | some l, F => B.le φ ∧ ∃ c z, φ l = some (c, z) ∧ F = Fence.wide.inRound c
omit hC hcall hround in
theorem FenceR.base {B φ : Phi} {r : Option Nat} {F : Fence} (h : FenceR B φ r F) : B.le φ := by
  cases r with
  | none => exact h.1
  | some l => exact h.1
omit hC hcall hround in
theorem FenceR.wide {B φ : Phi} {r : Option Nat} {F : Fence} (h : FenceR B φ r F) : Wide F := by
  cases r with
  | none => exact .wide h.2
  | some l => obtain ⟨_, c, z, _, h⟩ := h; exact .round c h
omit hC hcall hround in
theorem FenceR.mono {B φ ψ : Phi} (hl : φ.le ψ) {r : Option Nat} {F : Fence} (h : FenceR B φ r F) : FenceR B ψ r F := by
  cases r with
  | none => exact ⟨h.1.trans hl, h.2⟩
  | some l => obtain ⟨hb, c, z, k, h⟩ := h; exact ⟨hb.trans hl, c, z, hl _ _ k, h⟩
theorem oneA_ok {φ : Phi} {ah ah' : AH} {w : World} {F : Fence} {r : Option Nat} (hF : FenceR C.base φ r F) (h : HR φ ah w) {fr fr' : Fr} {a : Act} (hf : AR φ fr a) {o : Oper} (e : oneA C rec r o fr ah = some (fr', ah'))
    {next : Act → World → Prop} {Q : Exit → Act → World → Prop} (hn : ∀ ψ a' w', Stp φ ah w ψ ah' w' → AR ψ fr' a' → next a' w') : o.wpIn F 0 C.P a w next Q := by
  unfold oneA one2 at e
  split at e
  · rename_i d hr
    refine ⟨fun f _ => hF.wide.fn f, ?_⟩
    cases r with
    | some l => obtain ⟨tm, n, ds⟩ := fr; cases e
    | none =>
      have hF : F = Fence.wide := hF.2
      subst hF
      obtain ⟨tm, n, ds⟩ := fr
      cases e
      rw [hC.hund, hC.hinf] at hr
      obtain ⟨d', k1, k2⟩ := opA_ok hC.hst h hf.tm hr
      show o.uponIn Fence.wide 0 C.P a next Q ((execOp a.eval o).run C.P w)
      rw [k2]
      have : AR φ ⟨tm, n, d :: ds⟩ { a with defers := d' :: a.defers } := ⟨hf.tm, .cons k1 hf.ds⟩
      exact hn φ _ w (Stp.refl h) (this.put o.dst (VR.und φ))
  · rename_i x hx
    unfold putV at e
    split at e
    · rename_i v a1 hd
      cases e
      exact doA_ok hC hcall hround hF.base hF.wide h hf.tm hd fun ψ v' w' k1 k2 => hn ψ _ w' k1 ((hf.mono k1.le).put o.dst k2)
    · cases e
theorem opsSeq_ok {F : Fence} {r : Option Nat} {ops : Array Oper} {Q : Exit → Act → World → Prop} : ∀ (rest : List Oper) (k : Nat) {φ : Phi} {ah ah' : AH} {w : World} {fr fr' : Fr} {a : Act}, ops.toList.drop k = rest → FenceR C.base φ r F → HR φ ah w → AR φ fr a →
    opsSeq C rec r ops.toList rest fr ah = some (fr', ah') → (∀ ψ a' w', Stp φ ah w ψ ah' w' → AR ψ fr' a' → Q .normal a' w') → wpOpsIn F 0 C.P ops Q (List.range' k rest.length) a w
  | [], k, φ, ah, ah', w, fr, fr', a, hk, hF, h, hf, e, hq => by
    cases e
    exact hq φ a w (Stp.refl h) hf
  | o :: rest, k, φ, ah, ah', w, fr, fr', a, hk, hF, h, hf, e, hq => by
    have hko : ops[k]? = some o := by
      rw [← Array.getElem?_toList]
      have := congrArg (fun l => l[0]?) hk
      simpa using this
    have hk2 : ops.toList.drop (k + 1) = rest := by
      have := congrArg List.tail hk
      simpa [List.tail_drop] using this
    rw [List.length_cons, List.range'_succ]
    unfold opsSeq at e
    unfold wpOpsIn
    rw [hko]
    simp only []
    split at e
    · rename_i hw
      rw [wantA_ok hf.tm hw, if_pos rfl]
      unfold seq2 at e
      split at e
      · rename_i fr1 ah1 h1
        exact oneA_ok hC hcall hround hF h hf h1 fun ψ a1 w1 k1 k2 => opsSeq_ok rest (k + 1) hk2 (hF.mono k1.le) k1.hr k2 e fun χ a2 w2 k3 k4 => hq χ a2 w2 (k1.trans k3) k4
      · cases e
    · rename_i hw
      rw [wantA_ok hf.tm hw, if_neg (by decide)]
      exact ⟨fun f _ => hF.wide.fn f, opsSeq_ok rest (k + 1) hk2 hF h (hf.put o.dst (VR.und φ)) e hq⟩
    · cases e
end
end Go.Proofs.YtpmlofbpiajkbaaGreatDoor.M2
