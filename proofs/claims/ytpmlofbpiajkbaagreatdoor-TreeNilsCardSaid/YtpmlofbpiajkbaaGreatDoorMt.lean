/- A verified interpreter: what it says of statements, calls and rounds is so. -/
import Derived.Test.YtpmlofbpiajkbaaGreatDoorMs
import Derived.RangeFuncRecord
import Derived.Scope
set_option linter.unusedVariables false
set_option linter.unusedSimpArgs false
namespace Go.Proofs.YtpmlofbpiajkbaaGreatDoor.M2
open Go
def exitOf : AExit → Exit
  | .normal => .normal
  | .exit id => .exit id
  | .goto l => .goto l
  | .ret => .ret
/-- A piece of code, run from such a frame and such a heap, is left so. -/
def CodeOk (P : Program) (B : Phi) (r : Option Nat) (c : Code) (fr : Fr) (ah : AH) (ex : AExit) (fr' : Fr) (ah' : AH) : Prop :=
  ∀ (φ : Phi) (w : World) (a : Act) (F : Fence) (Q : Exit → Act → World → Prop), FenceR B φ r F → HR φ ah w → AR φ fr a → (∀ ψ a' w', Stp φ ah w ψ ah' w' → AR ψ fr' a' → Q (exitOf ex) a' w') → c.wpIn F 0 P Q a w
/-- A loop, behind its head. -/
def wpLoopIn (F : Fence) (n : Nat) (P : Program) (c : Code) (Q : Exit → Act → World → Prop) (a : Act) (w : World) : Prop :=
  ∀ (b : Frame) (k : List Item) (cs : List Frame), b.roundOf = F.round → F.fn b.fn → F.room (cs.length + 1 + n) →
    ∃ e a' w', Q e a' w' ∧ ArrivesIn (Machine.fenced P F) P (lone (b.atR a (.code c :: .inLoop c :: k)) cs w) b k cs e a' w'
theorem wpLoopIn_step {F : Fence} {n : Nat} {P : Program} {c : Code} {Q : Exit → Act → World → Prop} {a : Act} {w : World} (h : c.wpIn F n P (Exit.then (wpLoopIn F n P c Q) Q) a w) : wpLoopIn F n P c Q a w := by
  intro b k cs hro hb hr
  obtain ⟨e, a₁, w₁, hq, harr⟩ := h b (.inLoop c :: k) cs hro hb hr
  cases e with
  | normal =>
    obtain ⟨e₂, a₂, w₂, hq₂, harr₂⟩ := hq b k cs hro hb hr
    exact ⟨e₂, a₂, w₂, hq₂, .of_steps (StepsIn.trans harr (.one (fenced_calm hb hr rfl) stepR_inLoop)) harr₂⟩
  | exit id => exact ⟨_, a₁, w₁, hq, .pass (x := .inLoop c) rfl (fun _ _ => .inl (by simp)) harr⟩
  | goto l => exact ⟨_, a₁, w₁, hq, .pass (x := .inLoop c) rfl (fun _ _ => .inl (by simp)) harr⟩
  | ret => exact ⟨_, a₁, w₁, hq, .pass (x := .inLoop c) rfl (fun _ _ => .inl (by simp)) harr⟩
  | panic ch => exact ⟨_, a₁, w₁, hq, .pass (x := .inLoop c) rfl (fun _ _ => .inl (by simp)) harr⟩
  | outgrown => exact ⟨_, a₁, w₁, hq, .pass (x := .inLoop c) rfl (fun _ _ => .inl (by simp)) harr⟩
theorem wpLoopIn_loop {F : Fence} {n : Nat} {P : Program} {c : Code} {Q : Exit → Act → World → Prop} {a : Act} {w : World} (h : wpLoopIn F n P c Q a w) : (Code.loop c).wpIn F n P Q a w := by
  intro b k cs hro hb hr
  obtain ⟨e, a', w', hq, harr⟩ := h b k cs hro hb hr
  exact ⟨e, a', w', hq, .of_steps (.one (fenced_calm hb hr rfl) stepR_loop) harr⟩
def LoopOk (P : Program) (B : Phi) (r : Option Nat) (c : Code) (fr : Fr) (ah : AH) (ex : AExit) (fr' : Fr) (ah' : AH) : Prop :=
  ∀ (φ : Phi) (w : World) (a : Act) (F : Fence) (Q : Exit → Act → World → Prop), FenceR B φ r F → HR φ ah w → AR φ fr a → (∀ ψ a' w', Stp φ ah w ψ ah' w' → AR ψ fr' a' → Q (exitOf ex) a' w') → wpLoopIn F 0 P c Q a w
def JobOk (C : Cfg) : Job → Res → Prop
  | .code r c fr ah, .code ex fr' ah' => CodeOk C.P C.base r c fr ah ex fr' ah'
  | .loop r c fr ah, .code ex fr' ah' => LoopOk C.P C.base r c fr ah ex fr' ah'
  | .call f args ah, .val v ah' => CallOk C.P C.base f args ah v ah' ∧ (C.orc f = none → EnterOk C.P C.base f args ah v ah')
  | .round l args ah, .val v ah' => RoundOk C.P C.base l args ah v ah'
  | _, _ => True
def Sound (C : Cfg) (rec : Job → Option Res) : Prop := ∀ j res, rec j = some res → JobOk C j res
/-- A name dies, and what it stood for turns. -/
theorem Stp.dead {φ : Phi} {ah : AH} {w w' : World} (h : HR φ ah w) {b c z : Nat} {o1 : AObj} (hb : ah.get b = some o1) (hc : φ b = some (c, z)) (hw : w'.heap.size = w.heap.size) (hk : ∀ j, j ≠ c → w'.heap[j]? = w.heap[j]?) (hv : Env w w' := by exact ⟨rfl, rfl, rfl⟩) : Stp φ ah w φ (ah.kill b) w' := by
  have g : ∀ j o, (ah.kill b).get j = some o → j ≠ b ∧ ah.get j = some o := fun j o e => by
    rw [AH.get_kill] at e
    split at e
    · cases e
    · rename_i hj; exact ⟨hj, e⟩
  refine ⟨Phi.le.refl φ, fun _ _ => rfl, Nat.le_refl _, ⟨fun j o c2 z2 e e2 => ?_, fun j j2 o o2 c2 z1 z2 e e2 => h.inj j j2 o o2 c2 z1 z2 (g j o e).2 (g j2 o2 e2).2, fun j c2 z2 e => by rw [hw]; exact h.dom j c2 z2 e⟩,
    ⟨by omega, fun j hj hne => hk j (fun e => hne b o1 z hb (by rw [hc, e]))⟩, fun j o c2 z2 e e2 _ => ⟨j, o, z2, (g j o e).2, e2⟩, hv⟩
  obtain ⟨hjb, e⟩ := g j o e
  have hcc : c2 ≠ c := fun e3 => hjb (h.inj j b o o1 c2 z2 z e hb e2 (e3 ▸ hc))
  obtain ⟨o2, h1, h2⟩ := h.obj j o c2 z2 e e2
  exact ⟨o2, (hk c2 hcc).trans h1, h2⟩
theorem putObj_parts {w : World} {r : Nat} {o1 : Obj} (o : Obj) (h : w.heap[r]? = some o1) : (w.putObj r o).heap.size = w.heap.size ∧ (∀ j, j ≠ r → (w.putObj r o).heap[j]? = w.heap[j]?) ∧ (w.putObj r o).heap[r]? = some o := by
  have hlt : r < w.heap.size := (Array.getElem?_eq_some_iff.1 h).1
  refine ⟨by simp [World.putObj], fun j hj => ?_, ?_⟩
  · simp only [World.putObj]
    rw [Array.getElem?_setIfInBounds_ne (fun e => hj e.symm)]
  · simp only [World.putObj]
    rw [Array.getElem?_setIfInBounds_self_of_lt hlt]
section
variable {C : Cfg} {rec : Job → Option Res} (hC : CfgOk C) (hrec : Sound C rec)
include hC
theorem drawA_ok (hrec : Sound C rec) {r : Option Nat} {F : Fence} {φ : Phi} {ah ah' : AH} {w : World} {fr fr' : Fr} {a : Act} {ops : Array Oper} {id : Nat} {Q : Exit → Act → World → Prop} (hF : FenceR C.base φ r F) (h : HR φ ah w) (hf : AR φ fr a)
    (e : drawA C rec ops.toList fr ah = some (fr', ah')) (hq : ∀ ψ a' w', Stp φ ah w ψ ah' w' → AR ψ fr' a' → Q .normal a' w') : (Code.region id ops true).wpIn F 0 C.P Q a w := by
  refine wpIn_region_any hC.mixed ?_
  unfold drawA drawI at e
  rw [cnd_eq] at e
  split at e
  · rename_i hlt
    unfold drawE at e
    split at e
    · rename_i s hst
      obtain ⟨D, U, ns, tm, ahF⟩ := s
      obtain ⟨tm0, n, ds⟩ := fr
      cases e
      have hI := infos_ok ops
      have hcan : Canon C ops (infosF ops.toList ops.toList 0 .leaf) n ah.next ⟨0, 0, [], tm0, ah⟩ :=
        ⟨fun x hx => (by rw [hasB_zero]; simp), fun r hr => (by cases hr), fun r hr => (by cases hr), fun r hr => (by cases hr), fun r hr => (by cases hr), fun r hr => (by cases hr), fun r hr => (by cases hr), fun r hr => (by cases hr), fun r hr => (by cases hr), Nat.le_refl _, fun r hr => (by cases hr)⟩
      have hE0 : ∀ i, ¬ E (Array.replicate ops.size false) i := fun i he => by
        unfold E at he
        rw [Array.getD_eq_getD_getElem?, Array.getElem?_replicate] at he
        split at he <;> cases he
      have hA : ActP ops (infosF ops.toList ops.toList 0 .leaf) n φ ah w a.defers φ 0 ⟨0, 0, [], tm0, ah⟩ (Array.replicate ops.size false) a w.drew :=
        ⟨Stp.drew h, Array.size_replicate .., fun x _ he => absurd he (hE0 _), fun x _ he => absurd he (hE0 _), fun x _ he => (by rw [hasB_zero] at he; cases he), fun r hr => (by cases hr), hf.tm.size, fun t v ht _ => hf.tm.at_ t v ht, rfl, fun r hr => (by cases hr)⟩
      refine stages_ok hC (fun f args ah v ah' e => (hrec _ _ e).1) (fun l args ah v ah' e => hrec _ _ e) hF.base hF.wide hI hlt (sF := ⟨D, U, ns, tm, ah'⟩) ?_ _ 0 _ hst hcan ops.size _ φ a w.drew hA ?_
      · intro ψ S L a' w' hc hA' hall
        refine hq ψ a' w' hA'.st ⟨⟨hA'.asz, fun t v ht => hA'.tm t v ht fun q hq _ => hall _ ?_⟩, ?_⟩
        · exact (Array.getElem?_eq_some_iff.1 (hI.at_ _ (hc.mem q hq))).1
        · have := hf.ds.mono hA'.st.le
          rw [← hA'.ds] at this
          exact this
      · simp
    · cases e
  · cases e
theorem leaveA_ok {fn : Func} {tmps : Array Value} {R : Ending → World → Prop} : ∀ (ds : List ADef) {φ : Phi} {ah ah' : AH} {w : World} {defers : List Deferred}, HR φ ah w → DRs φ ds defers → leaveA C ds ah = some ah' →
    (∀ ψ w', Stp φ ah w ψ ah' w' → LeavesIn Fence.wide 0 C.P fn tmps R [] .returning w') → LeavesInM Fence.wide 0 C.P fn tmps R defers .returning w
  | [], φ, ah, ah', w, defers, h, hd, e, hq => by
    cases hd; cases e
    exact hq φ w (Stp.refl h)
  | .collected b :: r, φ, ah, ah', w, _, h, hd, e, hq => by
    cases hd with
    | cons h1 t =>
      cases h1 with
      | @collected _ c z hp =>
        unfold leaveA at e
        split at e
        · rename_i hb
          obtain ⟨o', g1, g2⟩ := h.obj _ _ _ _ hb hp
          cases g2
          obtain ⟨p1, p2, p3⟩ := putObj_parts (.deferred none) g1
          have hst := Stp.dead h hb hp p1 p2
          exact ⟨by simp, .inl ⟨c, _, rfl, run_takeDeferred g1, leaveA_ok r hst.hr t e fun ψ w' k => hq ψ w' (hst.trans k)⟩⟩
        · cases e
  | .call f args cap :: r, φ, ah, ah', w, _, h, hd, e, hq => by
    cases hd with
    | cons h1 t =>
      cases h1 with
      | @call _ _ _ args' cap' k1 k2 =>
        unfold leaveA at e
        rw [cnd_eq] at e
        split at e
        · rename_i hn
          obtain ⟨g1, g2⟩ := hC.noop f hn args' cap' w
          refine ⟨by simp, .inr ⟨fun hd => (by cases hd), .func f, cap', f, _, rfl, g1, fun _ _ => trivial, CallsDIn.mono g2 fun e u w' he => ?_⟩⟩
          cases e with
          | returned v =>
            obtain ⟨q1, rfl⟩ := he
            simp only [q1]
            exact leaveA_ok r h t e hq
          | _ => exact he.elim
        · cases e
theorem results_run {φ : Phi} {ah : AH} {w : World} {n : Nat} {tm : T AV} {tmps : Array Value} (h : HR φ ah w) (hf : FR φ n tm tmps) : ∀ (rs : List ResultVar) {l : List AV}, resultsA C ah tm rs = some l →
    ∃ vs : List Value, VRs φ l vs ∧ (rs.mapM (m := Sem) fun
      | .tmp t => pure (tmps.getD t undef)
      | .cell a t => do loadVar t (← asAddr (tmps.getD a undef))).run C.P w = .ok vs w
  | [], l, e => by cases e; exact ⟨[], .nil, rfl⟩
  | .tmp t :: r, l, e => by
    unfold resultsA at e
    split at e
    · rename_i v l2 hv hl
      cases e
      obtain ⟨vs, h1, h2⟩ := results_run h hf r hl
      refine ⟨_ :: vs, .cons (hf.at_ t v hv) h1, ?_⟩
      rw [List.mapM_cons]
      simp only [Sem.run_bind, Sem.run_pure, Result.andThen_ok, h2]
    · cases e
  | .cell b t :: r, l, e => by
    unfold resultsA at e
    split at e
    · rename_i x hx
      split at e
      · rename_i v l2 hv hl
        cases e
        obtain ⟨vs, h1, h2⟩ := results_run h hf r hl
        have hxr := hf.at_ b x hx
        rw [hC.hund, hC.hinf] at hv
        obtain ⟨u, g1, g2⟩ := loadA_still h hxr hv
        have hptr : ∃ ad, tmps.getD b undef = .pointer (some ad) := by
          unfold loadA at hv
          split at hv
          · generalize tmps.getD b undef = q at hxr
            cases hxr; exact ⟨_, rfl⟩
          · cases hv
        obtain ⟨ad, had⟩ := hptr
        refine ⟨u :: vs, .cons g2 h1, ?_⟩
        rw [had] at g1
        have h3 : (asAddr (tmps.getD b undef)).run C.P w = .ok ad w := by rw [had]; rfl
        have g1 : (loadVar t ad).run C.P w = .ok u w := by
          simpa only [Instr.loadAt, Instr.sureAddr, Sem.run_bind, Sem.run_pure, Result.andThen_ok] using g1
        rw [List.mapM_cons]
        simp only [Sem.run_bind, h3, g1, Result.andThen_ok, h2, Sem.run_pure]
      · cases e
    · cases e
theorem ret_ok {φ : Phi} {ah : AH} {w : World} {n : Nat} {tm : T AV} {a : Act} {fn : Func} {l : List AV} (h : HR φ ah w) (hf : FR φ n tm a.tmps) (e : resultsA C ah tm fn.results.toList = some l) :
    ∃ v, (results fn a.tmps).run C.P w = .ok v w ∧ VR φ (match l with | [v] => v | l => .tup l) v := by
  obtain ⟨vs, h1, h2⟩ := results_run hC h hf _ e
  have hlen := h1.length
  refine ⟨if hh : vs.toArray.size = 1 then vs.toArray[0] else .tuple vs.toArray, ?_, ?_⟩
  · unfold results
    rw [Array.mapM_eq_mapM_toList]
    simp only [Sem.run_bind, map_eq_pure_bind, Sem.run_pure]
    exact congrArg (fun q : Result (List Value) => (q.andThen fun a w' => Result.ok a.toArray w').andThen fun a w' => Result.ok (if h : a.size = 1 then a[0] else Value.tuple a) w') h2
  · match l, vs, h1 with
    | [], [], _ => exact .tup (a := #[]) .nil
    | [x], [v], .cons hv _ => exact hv
    | x :: y :: l, v :: u :: vs, h1 => exact .tup (a := (v :: u :: vs).toArray) (by simpa using h1)
omit hC in
theorem fromL_get : ∀ (l : List AV) (i : Nat) (tm : T AV) (t : Nat), (fromL l i tm).get t = if i ≤ t ∧ t < i + l.length then l[t - i]? else tm.get t
  | [], i, tm, t => by
    rw [if_neg (by simp only [List.length_nil]; omega)]; rfl
  | v :: r, i, tm, t => by
    show (fromL r (i + 1) (tm.put i (some v))).get t = _
    rw [fromL_get r (i + 1), T.get_put]
    simp only [List.length_cons]
    by_cases h1 : t = i
    · subst h1
      rw [if_neg (by omega), if_pos rfl, if_pos (by omega)]; simp
    · by_cases h2 : i + 1 ≤ t ∧ t < i + 1 + r.length
      · rw [if_pos h2, if_pos (by omega), show t - i = (t - (i + 1)) + 1 by omega, List.getElem?_cons_succ]
      · rw [if_neg h2, if_neg h1, if_neg (by omega)]
omit hC in
theorem enter_FR {φ : Phi} {args : List AV} {args' : Array Value} {n : Nat} (hv : VRs φ args args'.toList) (hn : args.length ≤ n) : FR φ n (fromL args 0 .leaf) (args' ++ Array.replicate (n - args'.size) undef) := by
  have hl : args.length = args'.size := by rw [hv.length, Array.length_toList]
  refine ⟨by rw [Array.size_append, Array.size_replicate]; omega, fun t x e => ?_⟩
  rw [fromL_get] at e
  split at e
  · rename_i ht
    obtain ⟨v, h1, h2⟩ := hv.get (t - 0) e
    rw [Nat.sub_zero, Array.getElem?_toList] at h1
    rw [Array.getD_eq_getD_getElem?, Array.getElem?_append_left (by omega), h1]
    exact h2
  · cases e
theorem callJ_ok (hrec : Sound C rec) {f : Nat} {args : List AV} {ah ah' : AH} {v : AV} (e : callJ C rec f args ah = some (.val v ah')) : CallOk C.P C.base f args ah v ah' ∧ (C.orc f = none → EnterOk C.P C.base f args ah v ah') := by
  unfold callJ at e
  split at e
  · rename_i g hg
    split at e
    · rename_i v2 a2 hr
      cases e
      exact ⟨hC.orc f g hg _ _ _ _ hr, fun hn => by rw [hg] at hn; cases hn⟩
    · cases e
  · rename_i hg
    have : EnterOk C.P C.base f args ah v ah' := by
      unfold enterJ at e
      split at e
      · rename_i fn hfn0
        have hfn := hC.hfns f fn hfn0
        split at e
        · rename_i c hb
          rw [cnd_eq] at e
          split at e
          · rename_i hle
            have hle := Nat.le_of_ble_eq_true hle
            intro φ w args' hB h hv
            have hname := hC.name f fn c hfn hb
            have hl : args.length = args'.size := by rw [hv.length, Array.length_toList]
            refine ⟨?_, ?_⟩
            · unfold callFunc
              simp only [Sem.run_bind, run_program, Result.andThen_ok, hfn, hname, Bool.false_eq_true, if_false, hb, Option.isNone_some, Sem.run_pure]
            · refine callsIn_of_wp_marks hfn hb trivial ?_
              unfold ret0 at e
              split at e
              · rename_i ex fr1 ah1 hcode
                have hcok : CodeOk C.P C.base none c ⟨fromL args 0 .leaf, fn.ntmps, []⟩ ah ex fr1 ah1 := hrec _ _ hcode
                refine hcok φ w _ Fence.wide _ ⟨hB, rfl⟩ h ⟨enter_FR hv hle, .nil⟩ fun ψ a' w' k1 k2 => ?_
                have fin : ret2 C fn fr1.tmps (leaveA C fr1.ds ah1) = some (.val v ah') → LeavesInM Fence.wide 0 C.P fn a'.tmps (fun e w' => match e with | .returned v' => ∃ ψ, Stp φ ah w ψ ah' w' ∧ VR ψ v v' | _ => False) a'.defers .returning w' := by
                  intro e
                  unfold ret2 at e
                  split at e
                  · rename_i ah2 hlv
                    refine leaveA_ok hC fr1.ds k1.hr k2.ds hlv fun χ w2 k3 => ?_
                    unfold retV at e
                    have hfr2 := k2.tm.mono k3.le
                    split at e
                    · rename_i u hres
                      cases e
                      obtain ⟨v', q1, q2⟩ := ret_ok hC k3.hr hfr2 hres
                      exact ⟨v', q1, χ, k1.trans k3, q2⟩
                    · rename_i l hl1 hres
                      cases e
                      obtain ⟨v', q1, q2⟩ := ret_ok hC k3.hr hfr2 hres
                      refine ⟨v', q1, χ, k1.trans k3, ?_⟩
                      match l, hl1 with
                      | [], _ => exact q2
                      | [x], hl1 => exact absurd rfl (hl1 x)
                      | x :: y :: l, _ => exact q2
                    · cases e
                  · cases e
                unfold ret1 at e
                split at e
                · exact fin e
                · exact fin e
                · cases e
              · cases e
          · cases e
        · cases e
      · cases e
    exact ⟨this.call, fun _ => this⟩
omit hC in
theorem setParams_AR {φ : Phi} : ∀ {ps : List Nat} {args : List AV} {args' : List Value} {fr : Fr} {tmps : Array Value} {ds : List Deferred}, ps.length = args.length → VRs φ args args' → AR φ fr ⟨tmps, ds⟩ →
    AR φ (setParams (ps.zip args) fr) ⟨(ps.zip args').foldl (fun tmps (t, a) => tmps.setIfInBounds t a) tmps, ds⟩
  | [], args, args', fr, tmps, ds, _, _, h => h
  | p :: ps, [], _, _, _, _, hl, _, _ => by cases hl
  | p :: ps, x :: args, _, fr, tmps, ds, hl, hv, h => by
    cases hv with
    | @cons _ v _ r a t =>
      show AR φ (setParams (ps.zip args) (fr.put (some p) x)) ⟨(ps.zip r).foldl _ (tmps.setIfInBounds p v), ds⟩
      exact setParams_AR (ps := ps) (args := args) (by simpa using hl) t (h.put (some p) a)
omit hC in
theorem loop_of {φ : Phi} {z : Nat} {st : LoopState} {pe : Option Code} {tmps : T AV} {n : Nat} {params : List Tmp} {assign body : Code} {ds : Nat} {o : Obj} (h : OR φ z (.loop st pe tmps n params assign body ds) o) :
    ∃ r : Loop, o = .loop r ∧ r.state = st ∧ r.pending = pe ∧ r.params.toList = params ∧ r.assign = assign ∧ r.body = body ∧ FR φ n tmps r.tmps ∧ (∀ st2 pe2, OR φ z (.loop st2 pe2 tmps n params assign body ds) (.loop { r with state := st2, pending := pe2 })) := by
  cases h with
  | loop h hd => exact ⟨_, rfl, rfl, rfl, rfl, rfl, rfl, h, fun st2 pe2 => .loop h hd⟩
omit hC in
theorem roundJ_ok (hrec : Sound C rec) {l : Nat} {args : List AV} {ah ah' : AH} {v : AV} (e : roundJ rec l args ah = some (.val v ah')) : RoundOk C.P C.base l args ah v ah' := by
  unfold roundJ at e
  intro φ w args' c z hB h hp hv
  unfold roundO at e
  split at e
  · rename_i pe tmps n params assign body ds hb
    rw [cnd_eq] at e
    split at e
    · rename_i hlen
      have hlen := Nat.eq_of_beq_eq_true hlen
      obtain ⟨o', g1, g2⟩ := h.obj _ _ _ _ hb hp
      obtain ⟨r, rfl, r1, r2, r3, r4, r5, r6, r7⟩ := loop_of g2
      have hl : args'.size = r.params.size := by
        rw [← Array.length_toList (xs := r.params), r3, ← hlen, hv.length, Array.length_toList]
      refine ⟨_, _, _, _, run_yield g1 hl, roundIn_of_wpIn trivial ?_⟩
      unfold round0 at e
      split at e
      · rename_i fr1 ah1 hass
        have h1 : CodeOk C.P C.base (some l) assign (setParams (params.zip args) ⟨tmps, n, []⟩) ah .normal fr1 ah1 := hrec _ _ hass
        rw [r4]
        refine h1 φ w _ _ _ ⟨hB, c, z, hp, rfl⟩ h ?_ fun ψ a1 w1 k1 k2 => ?_
        · have h0 : AR φ ⟨tmps, n, []⟩ ⟨r.tmps, []⟩ := ⟨r6, .nil⟩
          have := setParams_AR (ps := params) (args := args) (args' := args'.toList) (by omega) hv h0
          have hz : (r.params.zip args').foldl (fun tmps (t, a) => tmps.setIfInBounds t a) r.tmps = (params.zip args'.toList).foldl (fun tmps (t, a) => tmps.setIfInBounds t a) r.tmps := by
            rw [← r3, ← Array.foldl_toList, Array.toList_zip]
          rw [hz]; exact this
        · unfold round1 at e
          split at e
          · rename_i pe2 tmps2 n2 params2 assign2 body2 ds2 hb2
            have hp2 := k1.le _ _ hp
            obtain ⟨o2, q1, q2⟩ := k1.hr.obj _ _ _ _ hb2 hp2
            obtain ⟨rr, rfl, s1, s2, s3, s4, s5, s6, s7⟩ := loop_of q2
            refine ⟨_, run_beginRound q1 s1, ?_⟩
            obtain ⟨p1, p2, p3⟩ := putObj_parts (.loop { rr with state := .busy }) q1
            subst s2
            have hst := Stp.turn k1.hr hb2 hp2 p1 p2 p3 (s7 .busy rr.pending)
            unfold round2 at e
            split at e
            · rename_i ex fr2 ah3 hbody
              have h2 : CodeOk C.P C.base (some l) body fr1 _ ex fr2 ah3 := hrec _ _ hbody
              rw [r5]
              refine h2 ψ _ a1 _ _ ⟨hB.trans k1.le, c, z, hp2, rfl⟩ hst.hr k2 fun χ a2 w2 k3 k4 => ?_
              have hp3 := k3.le _ _ hp2
              unfold round3 at e
              split at e
              · rename_i st3 pe3 tmps3 n3 params3 assign3 body3 ds3 hb3
                split at e
                · cases e
                  obtain ⟨o3, t1, t2⟩ := k3.hr.obj _ _ _ _ hb3 hp3
                  obtain ⟨r3', rfl, u1, u2, u3, u4, u5, u6, u7⟩ := loop_of t2
                  have fin : ∀ jump : Option Code, jumpOf ex = jump → ∃ v w', (Instr.endRound c jump).run C.P w2 = .ok v w' ∧ (∃ ψ, Stp φ ah w ψ (ah3.set l (.loop (cnd ((jumpOf ex).isNone) (.ready) <| .done) (jumpOf ex) tmps3 n3 params3 assign3 body3 ds3)) w' ∧ VR ψ (.bool (jumpOf ex).isNone) v) := by
                    intro jump hj
                    obtain ⟨p1, p2, p3⟩ := putObj_parts (.loop { r3' with state := if jump.isNone then .ready else .done, pending := jump }) t1
                    have ho := u7 (if jump.isNone then .ready else .done) jump
                    have hst3 := Stp.turn k3.hr hb3 hp3 p1 p2 p3 ho
                    refine ⟨_, _, run_endRound jump t1, χ, ?_, ?_⟩
                    · rw [hj, cnd_eq]
                      exact ((k1.trans hst).trans k3).trans hst3
                    · rw [hj]; exact .bool _
                  cases ex with
                  | normal => exact fin none rfl
                  | exit id => exact fin _ rfl
                  | goto t => exact fin _ rfl
                  | ret => exact fin _ rfl
                · cases e
              · cases e
            · cases e
          · cases e
      · cases e
    · cases e
  · cases e
omit hC in
theorem rangeJ_ok (hrec : Sound C rec) {r : Option Nat} {f : Operand} {params : Array Tmp} {assign body : Code} {fr fr' : Fr} {ah ah' : AH} {ex : AExit} (e : rangeJ C rec r f params assign body fr ah = some (.code ex fr' ah')) :
    CodeOk C.P C.base r (.rangeFunc f params assign body) fr ah ex fr' ah' := by
  intro φ w a F Q hF h hf hq
  unfold rangeJ at e
  cases r with
  | some l => cases e
  | none =>
    obtain ⟨hB, hF⟩ := hF
    subst hF
    have e : rangeV C rec params assign body fr ah (ev fr.tmps f) = some (.code ex fr' ah') := e
    unfold rangeV at e
    split at e
    · rename_i g first cap hev
      split at e
      · rename_i horc
        have hfv := ev_VR hf.tm hev
        refine wpIn_rangeFunc fun fn _ => ?_
        generalize hx : a.eval f = f' at hfv
        cases hfv with
        | @fn _ _ _ a1 a2 v1 v2 =>
          have n1 : Stp φ ah w (φ.add ah.next w.heap.size 0) (ah.new .defd) (w.alloc (.deferred (some []))) := Stp.new h .defd
          have hfr1 : FR (φ.add ah.next w.heap.size 0) fr.n fr.tmps a.tmps := hf.tm.mono n1.le
          have hd1 : (φ.add ah.next w.heap.size 0) ah.next = some (w.heap.size, 0) := Phi.add_self _ _ _ _
          have hle2 : (φ.add ah.next w.heap.size 0).le ((φ.add ah.next w.heap.size 0).add (ah.next + 1) (w.alloc (.deferred (some []))).heap.size 0) := Phi.le_add n1.hr.none_next
          have n2 : Stp (φ.add ah.next w.heap.size 0) (ah.new .defd) (w.alloc (.deferred (some []))) ((φ.add ah.next w.heap.size 0).add (ah.next + 1) (w.alloc (.deferred (some []))).heap.size 0)
              ((ah.new .defd).new (.loop .ready none fr.tmps fr.n params.toList assign body ah.next)) ((w.alloc (.deferred (some []))).alloc (.loop { state := .ready, pending := none, fn := fn, tmps := a.tmps, params := params, assign := assign, body := body, defers := w.heap.size })) :=
            Stp.new n1.hr (.loop (hfr1.mono hle2) (hle2 _ _ hd1))
          have n12 := n1.trans n2
          have hl2 : ((φ.add ah.next w.heap.size 0).add (ah.next + 1) (w.alloc (.deferred (some []))).heap.size 0) (ah.next + 1) = some (w.heap.size + 1, 0) := by
            rw [Phi.add_self, World.size_alloc]
          refine ⟨_, _, _, { target := .fn (.func g) a2, args := a1 ++ #[.func (.yield (w.heap.size + 1)) #[] #[]] }, (w.alloc (.deferred (some []))).alloc (.loop { state := .ready, pending := none, fn := fn, tmps := a.tmps, params := params, assign := assign, body := body, defers := w.heap.size }), g, a1 ++ #[.func (.yield (w.heap.size + 1)) #[] #[]] ++ a2, (w.alloc (.deferred (some []))).alloc (.loop { state := .ready, pending := none, fn := fn, tmps := a.tmps, params := params, assign := assign, body := body, defers := w.heap.size }), run_enterLoop_outer fn a.tmps params assign body, ?_, fun _ _ => trivial, ?_, fun hd => (by cases hd), ?_⟩
          · have hm : (#[Operand.const (Value.func (Fn.yield (w.heap.size + 1)) #[] #[])]).map a.eval = #[Value.func (Fn.yield (w.heap.size + 1)) #[] #[]] := by simp [Act.eval]
            simp only [rangeCall, resolve, hx, Deferred.ofValue, Sem.run_pure, hm]
          · unfold range0 at e
            split at e
            · rename_i rv ah3 hcallr
              have hen := (hrec _ _ hcallr).2 horc _ _ (a1 ++ #[.func (.yield (w.heap.size + 1)) #[] #[]] ++ a2) (hB.trans n12.le) n12.hr (by
                rw [Array.toList_append, Array.toList_append]
                exact ((v1.mono n12.le).append (.cons (.yield hl2) .nil)).append (v2.mono n12.le))
              exact hen.1
            · cases e
          · unfold range0 at e
            split at e
            · rename_i rv ah3 hcallr
              have hen := (hrec _ _ hcallr).2 horc _ _ (a1 ++ #[.func (.yield (w.heap.size + 1)) #[] #[]] ++ a2) (hB.trans n12.le) n12.hr (by
                rw [Array.toList_append, Array.toList_append]
                exact ((v1.mono n12.le).append (.cons (.yield hl2) .nil)).append (v2.mono n12.le))
              refine CallsIn.mono hen.2 ?_
              intro en w3 hR
              cases en with
              | panicked _ => exact hR.elim
              | outgrown => exact hR.elim
              | returned rv' =>
                obtain ⟨ψ, k1, _⟩ := hR
                have hl3 := k1.le _ _ hl2
                have hAR : AR ψ ⟨fr.tmps, fr.n, .collected ah.next :: fr.ds⟩ { a with defers := [{ target := .collected w.heap.size, args := #[] }] ++ a.defers } :=
                  ⟨(hf.tm.mono n12.le).mono k1.le, .cons (.collected (k1.le _ _ (hle2 _ _ hd1))) ((hf.ds.mono n12.le).mono k1.le)⟩
                have fin : ∀ {st : LoopState} {pe : Option Code} {t n p as_ bo d}, st ≠ .busy → ah3.get (ah.next + 1) = some (.loop st pe t n p as_ bo d) → range2 rec ⟨fr.tmps, fr.n, .collected ah.next :: fr.ds⟩ (ah3.kill (ah.next + 1)) pe = some (.code ex fr' ah') →
                    rangePost Fence.wide 0 C.P (w.heap.size + 1) Q { a with defers := [{ target := .collected w.heap.size, args := #[] }] ++ a.defers } (.returned rv') w3 := by
                  intro st pe t n p as_ bo d hnb hg he
                  obtain ⟨o3, t1, t2⟩ := k1.hr.obj _ _ _ _ hg hl3
                  obtain ⟨r3', rfl, u1, u2, u3, u4, u5, u6, u7⟩ := loop_of t2
                  obtain ⟨p1, p2, p3⟩ := putObj_parts (.loop { r3' with state := .exhausted }) t1
                  have hst := Stp.dead k1.hr hg hl3 p1 p2
                  have hend := run_endLoop (P := C.P) t1 (by rw [u1]; exact hnb)
                  generalize w3.putObj (w.heap.size + 1) (.loop { r3' with state := .exhausted }) = w4 at hst hend
                  refine ⟨_, w4, hend, ?_⟩
                  rw [u2]
                  cases pe with
                  | none =>
                    cases he
                    exact hq ψ _ _ ((n12.trans k1).trans hst) hAR
                  | some cj =>
                    have hcj : CodeOk C.P C.base none cj _ _ ex fr' ah' := hrec _ _ he
                    exact hcj ψ _ _ Fence.wide Q ⟨(hB.trans n12.le).trans k1.le, rfl⟩ hst.hr hAR fun χ a' w' q1 q2 => hq χ a' w' (((n12.trans k1).trans hst).trans q1) q2
                unfold range1 at e
                split at e
                · rename_i hg; exact fin (by simp) hg e
                · rename_i hg; exact fin (by simp) hg e
                · cases e
            · cases e
      · cases e
    · cases e
/-- One step more is sound. -/
theorem stepJ_ok (hrec : Sound C rec) : Sound C (stepJ C rec) := by
  intro j res e
  cases j with
  | call f args ah =>
    cases res with
    | code => trivial
    | val v ah' => exact callJ_ok hC hrec e
  | round l args ah =>
    cases res with
    | code => trivial
    | val v ah' => exact roundJ_ok hrec e
  | loop r c fr ah =>
    cases res with
    | val => trivial
    | code ex fr' ah' =>
      have e : loopJ rec r c (rec (.code r c fr ah)) = some (.code ex fr' ah') := e
      intro φ w a F Q hF h hf hq
      unfold loopJ at e
      split at e
      · rename_i fr1 ah1 h1
        have k0 : CodeOk C.P C.base r c fr ah .normal fr1 ah1 := hrec _ _ h1
        have k9 : LoopOk C.P C.base r c fr1 ah1 ex fr' ah' := hrec _ _ e
        exact wpLoopIn_step (k0 φ w a F _ hF h hf fun ψ a1 w1 k1 k2 => k9 ψ w1 a1 F Q (hF.mono k1.le) k1.hr k2 fun χ a2 w2 k3 k4 => hq χ a2 w2 (k1.trans k3) k4)
      · rename_i x hx
        have k0 : CodeOk C.P C.base r c fr ah ex fr' ah' := hrec _ _ e
        refine wpLoopIn_step (k0 φ w a F _ hF h hf fun ψ a1 w1 k1 k2 => ?_)
        cases ex with
        | normal => exact absurd e (hx _ _)
        | exit id => exact hq ψ a1 w1 k1 k2
        | goto l => exact hq ψ a1 w1 k1 k2
        | ret => exact hq ψ a1 w1 k1 k2
  | code r c fr ah =>
    cases res with
    | val => trivial
    | code ex fr' ah' =>
      have e : codeJ C rec r c fr ah = some (.code ex fr' ah') := e
      show CodeOk C.P C.base r c fr ah ex fr' ah'
      cases c with
      | skip => cases e; exact fun φ w a F Q hF h hf hq => wpIn_skip (hq φ a w (Stp.refl h) hf)
      | label l => cases e; exact fun φ w a F Q hF h hf hq => wpIn_label (hq φ a w (Stp.refl h) hf)
      | exit id => cases e; exact fun φ w a F Q hF h hf hq => wpIn_exit (hq φ a w (Stp.refl h) hf)
      | goto l => cases e; exact fun φ w a F Q hF h hf hq => wpIn_goto (hq φ a w (Stp.refl h) hf)
      | ret => cases e; exact fun φ w a F Q hF h hf hq => wpIn_ret (hq φ a w (Stp.refl h) hf)
      | refuse s => cases e
      | region id ops draw =>
        intro φ w a F Q hF h hf hq
        have e : regionJ C rec r ops draw fr ah = some (.code ex fr' ah') := e
        unfold regionJ at e
        rw [cnd_eq] at e
        unfold regJ at e
        split at e
        · rename_i fr1 ah1 h1
          cases e
          cases draw with
          | true => exact drawA_ok hC hrec hF h hf h1 hq
          | false =>
            refine wpIn_region ?_
            rw [List.range_eq_range', ← Array.length_toList (xs := ops)]
            exact opsSeq_ok hC (fun f args ah v ah' e => (hrec _ _ e).1) (fun l args ah v ah' e => hrec _ _ e) ops.toList 0 rfl hF h hf h1 hq
        · cases e
      | seq x y =>
        intro φ w a F Q hF h hf hq
        have e : seqJ rec r y (rec (.code r x fr ah)) = some (.code ex fr' ah') := e
        unfold seqJ at e
        split at e
        · rename_i fr1 ah1 h1
          have k0 : CodeOk C.P C.base r x fr ah .normal fr1 ah1 := hrec _ _ h1
          have k9 : CodeOk C.P C.base r y fr1 ah1 ex fr' ah' := hrec _ _ e
          exact wpIn_seq (k0 φ w a F _ hF h hf fun ψ a1 w1 k1 k2 => k9 ψ w1 a1 F Q (hF.mono k1.le) k1.hr k2 fun χ a2 w2 k3 k4 => hq χ a2 w2 (k1.trans k3) k4)
        · rename_i hx
          have k0 : CodeOk C.P C.base r x fr ah ex fr' ah' := hrec _ _ e
          refine wpIn_seq (k0 φ w a F _ hF h hf fun ψ a1 w1 k1 k2 => ?_)
          cases ex with
          | normal => exact absurd e (hx _ _)
          | exit id => exact hq ψ a1 w1 k1 k2
          | goto l => exact hq ψ a1 w1 k1 k2
          | ret => exact hq ψ a1 w1 k1 k2
      | cond c x y =>
        intro φ w a F Q hF h hf hq
        have e : condJ rec r x y fr ah (ev fr.tmps c) = some (.code ex fr' ah') := e
        unfold condJ at e
        split at e
        · rename_i t ht
          have hv := ev_VR hf.tm ht
          generalize hce : a.eval c = c' at hv
          cases hv
          have k0 : CodeOk C.P C.base r (cnd t x y) fr ah ex fr' ah' := hrec _ _ e
          have := k0 φ w a F Q hF h hf hq
          rw [cnd_eq] at this
          exact wpIn_cond hce this
        · cases e
      | block id x =>
        intro φ w a F Q hF h hf hq
        have e : blockJ id (rec (.code r x fr ah)) = some (.code ex fr' ah') := e
        unfold blockJ at e
        split at e
        · rename_i j fr1 ah1 h1
          have k0 : CodeOk C.P C.base r x fr ah (.exit j) fr1 ah1 := hrec _ _ h1
          simp only [cnd_eq] at e
          cases e
          refine wpIn_block (k0 φ w a F _ hF h hf fun ψ a1 w1 k1 k2 => ?_)
          have := hq ψ a1 w1 k1 k2
          show if j = id then Q .normal a1 w1 else Q (.exit j) a1 w1
          by_cases hj : j = id
          · rw [if_pos hj]
            rw [if_pos (by rw [hj]; exact Nat.beq_refl id)] at this
            exact this
          · rw [if_neg hj]
            rw [if_neg (fun hb => hj (Nat.eq_of_beq_eq_true hb))] at this
            exact this
        · rename_i hx
          have k0 : CodeOk C.P C.base r x fr ah ex fr' ah' := hrec _ _ e
          refine wpIn_block (k0 φ w a F _ hF h hf fun ψ a1 w1 k1 k2 => ?_)
          cases ex with
          | exit id => exact absurd e (hx _ _ _)
          | normal => exact hq ψ a1 w1 k1 k2
          | goto l => exact hq ψ a1 w1 k1 k2
          | ret => exact hq ψ a1 w1 k1 k2
      | loop x =>
        have k0 : LoopOk C.P C.base r x fr ah ex fr' ah' := hrec (.loop r x fr ah) _ e
        exact fun φ w a F Q hF h hf hq => wpLoopIn_loop (k0 φ w a F Q hF h hf hq)
      | scope x =>
        cases r with
        | some l => cases e
        | none =>
          intro φ w a F Q hF h hf hq
          obtain ⟨hB, hF⟩ := hF
          subst hF
          have e : scopeJ (rec (.code none x fr ah)) = some (.code ex fr' ah') := e
          unfold scopeJ at e
          split at e
          · cases e
          · rename_i hx
            have k0 : CodeOk C.P C.base none x fr ah ex fr' ah' := hrec _ _ e
            refine wpIn_wide.2 (wp_scope_straight (wpIn_wide.1 (k0 φ w a Fence.wide _ ⟨hB, rfl⟩ h hf fun ψ a1 w1 k1 k2 => ?_)))
            cases ex with
            | exit id => exact hq ψ a1 w1 k1 k2
            | normal => exact hq ψ a1 w1 k1 k2
            | goto l => exact absurd e (hx _ _ _)
            | ret => exact hq ψ a1 w1 k1 k2
      | rangeFunc f params assign body => exact rangeJ_ok hrec e
/-- What the interpreter says is so. -/
theorem runJ_ok (n : Nat) : Sound C (runJ C n) := by
  induction n with
  | zero => intro j res e; cases e
  | succ n ih => exact stepJ_ok hC ih
end
end Go.Proofs.YtpmlofbpiajkbaaGreatDoor.M2
