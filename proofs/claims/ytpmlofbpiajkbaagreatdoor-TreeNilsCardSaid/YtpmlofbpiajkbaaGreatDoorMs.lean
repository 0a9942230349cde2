/- A verified interpreter: a region that draws its order comes to the same in every order. -/
import Derived.Test.YtpmlofbpiajkbaaGreatDoorMr
set_option linter.unusedVariables false
set_option linter.unusedSimpArgs false
namespace Go.Proofs.YtpmlofbpiajkbaaGreatDoor.M2
open Go
/-! ### Equal values -/
mutual
theorem avEq_eq : ∀ (a b : AV), avEq a b = true → a = b
  | .bool a, .bool b, h => by simp [avEq] at h; rw [h]
  | .int k a, .int k2 b, h => by simp [avEq] at h; rw [h.1, h.2]
  | .str a, .str b, h => by simp only [avEq] at h; rw [(natsEq_eq a b).1 h]
  | .nilp, .nilp, _ => rfl
  | .ptr a o, .ptr b p, h => by simp only [avEq, Bool.and_eq_true] at h; rw [Nat.eq_of_beq_eq_true h.1, Nat.eq_of_beq_eq_true h.2]
  | .nils, .nils, _ => rfl
  | .empty, .empty, _ => rfl
  | .slice a o n c, .slice b p m d, h => by
    simp only [avEq, Bool.and_eq_true] at h
    have hr : ∀ c d, roomEq c d = true → c = d := by
      intro c d hh
      cases c <;> cases d <;> simp only [roomEq] at hh
      · rw [Nat.eq_of_beq_eq_true hh]
      · cases hh
      · cases hh
      · rw [Nat.eq_of_beq_eq_true hh]
    rw [Nat.eq_of_beq_eq_true h.1.1.1, Nat.eq_of_beq_eq_true h.1.1.2, Nat.eq_of_beq_eq_true h.1.2, hr _ _ h.2]
  | .nilm, .nilm, _ => rfl
  | .map a, .map b, h => by simp only [avEq] at h; rw [Nat.eq_of_beq_eq_true h]
  | .fn f x y, .fn g u v, h => by
    simp only [avEq, Bool.and_eq_true] at h
    rw [Nat.eq_of_beq_eq_true h.1.1, avsEq_eq x u h.1.2, avsEq_eq y v h.2]
  | .yield a, .yield b, h => by simp only [avEq] at h; rw [Nat.eq_of_beq_eq_true h]
  | .nilf, .nilf, _ => rfl
  | .iface t x, .iface u y, h => by simp only [avEq, Bool.and_eq_true] at h; rw [Nat.eq_of_beq_eq_true h.1, avEq_eq x y h.2]
  | .nili, .nili, _ => rfl
  | .agg x, .agg y, h => by simp only [avEq] at h; rw [avsEq_eq x y h]
  | .tup x, .tup y, h => by simp only [avEq] at h; rw [avsEq_eq x y h]
  | .bool _, .int _ _, h => by simp [avEq] at h
  | .bool _, .str _, h => by simp [avEq] at h
  | .bool _, .nilp, h => by simp [avEq] at h
  | .bool _, .ptr _ _, h => by simp [avEq] at h
  | .bool _, .nils, h => by simp [avEq] at h
  | .bool _, .empty, h => by simp [avEq] at h
  | .bool _, .slice _ _ _ _, h => by simp [avEq] at h
  | .bool _, .nilm, h => by simp [avEq] at h
  | .bool _, .map _, h => by simp [avEq] at h
  | .bool _, .fn _ _ _, h => by simp [avEq] at h
  | .bool _, .yield _, h => by simp [avEq] at h
  | .bool _, .nilf, h => by simp [avEq] at h
  | .bool _, .iface _ _, h => by simp [avEq] at h
  | .bool _, .nili, h => by simp [avEq] at h
  | .bool _, .agg _, h => by simp [avEq] at h
  | .bool _, .tup _, h => by simp [avEq] at h
  | .bool _, .tok _ _ _ _ _ _, h => by simp [avEq] at h
  | .bool _, .anyi _, h => by simp [avEq] at h
  | .bool _, .slt _ _ _ _ _ _, h => by simp [avEq] at h
  | .int _ _, b, h => by cases b <;> simp [avEq] at h; rw [h.1, h.2]
  | .str _, b, h => by cases b <;> simp only [avEq] at h <;> first | (cases h; done) | rw [(natsEq_eq _ _).1 h]
  | .nilp, b, h => by cases b <;> first | rfl | (simp [avEq] at h; done)
  | .ptr _ _, b, h => by cases b <;> simp only [avEq, Bool.and_eq_true] at h <;> first | (cases h; done) | rw [Nat.eq_of_beq_eq_true h.1, Nat.eq_of_beq_eq_true h.2]
  | .nils, b, h => by cases b <;> first | rfl | (simp [avEq] at h; done)
  | .empty, b, h => by cases b <;> first | rfl | (simp [avEq] at h; done)
  | .slice _ _ _ _, b, h => by
    cases b <;> first | (simp [avEq] at h; done) | skip
    rename_i a o n c b p m d
    simp only [avEq, Bool.and_eq_true] at h
    have hr : ∀ c d, roomEq c d = true → c = d := by
      intro c d hh
      cases c <;> cases d <;> simp only [roomEq] at hh
      · rw [Nat.eq_of_beq_eq_true hh]
      · cases hh
      · cases hh
      · rw [Nat.eq_of_beq_eq_true hh]
    rw [Nat.eq_of_beq_eq_true h.1.1.1, Nat.eq_of_beq_eq_true h.1.1.2, Nat.eq_of_beq_eq_true h.1.2, hr _ _ h.2]
  | .nilm, b, h => by cases b <;> first | rfl | (simp [avEq] at h; done)
  | .map _, b, h => by cases b <;> simp only [avEq] at h <;> first | (cases h; done) | rw [Nat.eq_of_beq_eq_true h]
  | .fn f x y, b, h => by cases b <;> simp only [avEq, Bool.and_eq_true] at h <;> first | (cases h; done) | rw [Nat.eq_of_beq_eq_true h.1.1, avsEq_eq x _ h.1.2, avsEq_eq y _ h.2]
  | .yield _, b, h => by cases b <;> simp only [avEq] at h <;> first | (cases h; done) | rw [Nat.eq_of_beq_eq_true h]
  | .nilf, b, h => by cases b <;> first | rfl | (simp [avEq] at h; done)
  | .iface t x, b, h => by cases b <;> simp only [avEq, Bool.and_eq_true] at h <;> first | (cases h; done) | rw [Nat.eq_of_beq_eq_true h.1, avEq_eq x _ h.2]
  | .nili, b, h => by cases b <;> first | rfl | (simp [avEq] at h; done)
  | .agg x, b, h => by cases b <;> simp only [avEq] at h <;> first | (cases h; done) | rw [avsEq_eq x _ h]
  | .tup x, b, h => by cases b <;> simp only [avEq] at h <;> first | (cases h; done) | rw [avsEq_eq x _ h]
  | .tok k neg x c lo hi, b, h => by
    cases b <;> first | (simp [avEq] at h; done) | skip
    simp only [avEq, Bool.and_eq_true, decide_eq_true_iff, beq_iff_eq] at h
    rw [h.1, Nat.eq_of_beq_eq_true h.2.1, h.2.2.1, h.2.2.2.1, h.2.2.2.2.1, h.2.2.2.2.2]
  | .anyi k, b, h => by
    cases b <;> first | (simp [avEq] at h; done) | skip
    simp only [avEq, decide_eq_true_iff] at h
    rw [h]
  | .slt x o t c lo hi, b, h => by
    cases b <;> first | (simp [avEq] at h; done) | skip
    simp only [avEq, Bool.and_eq_true, decide_eq_true_iff] at h
    rw [Nat.eq_of_beq_eq_true h.1, Nat.eq_of_beq_eq_true h.2.1, Nat.eq_of_beq_eq_true h.2.2.1, h.2.2.2.1, Nat.eq_of_beq_eq_true h.2.2.2.2.1, Nat.eq_of_beq_eq_true h.2.2.2.2.2]
theorem avsEq_eq : ∀ (a b : List AV), avsEq a b = true → a = b
  | [], [], _ => rfl
  | [], _ :: _, h => by simp [avsEq] at h
  | _ :: _, [], h => by simp [avsEq] at h
  | x :: l, y :: r, h => by
    simp only [avsEq, Bool.and_eq_true] at h
    rw [avEq_eq x y h.1, avsEq_eq l r h.2]
end

/-! ### Blocks that are told ahead -/
section
variable {φ0 φ : Phi} {a0 a : AH} {w0 w : World}
theorem Stp.virt (h : Stp φ0 a0 w0 φ a w) (o : AObj) : Stp φ0 a0 w0 φ (a.new o) w := by
  have g : ∀ b ob p, (a.new o).get b = some ob → φ b = some p → a.get b = some ob := fun b ob p e e2 => by
    rw [AH.get_new] at e
    split at e
    · rename_i hb; subst hb
      have := (h.hr.dom _ p.1 p.2 e2).1
      omega
    · exact e
  refine ⟨h.le, h.old, Nat.le_succ_of_le h.nx, ⟨fun b ob c z hb hc => h.hr.obj b ob c z (g b ob _ hb hc) hc, fun b b2 o1 o2 c z z2 hb hb2 hc hc2 => h.hr.inj b b2 o1 o2 c z z2 (g b o1 _ hb hc) (g b2 o2 _ hb2 hc2) hc hc2, fun b c z hc => ⟨Nat.lt_succ_of_lt (h.hr.dom b c z hc).1, (h.hr.dom b c z hc).2⟩⟩, h.out, fun b ob c z hb hc => h.src b ob c z (g b ob _ hb hc) hc, h.env⟩
theorem Stp.realize (h : Stp φ0 a0 w0 φ a w) {b : Nat} {o : AObj} {o' : Obj} {z : Nat} {w' : World} (h0 : a0.next ≤ b) (h1 : b < a.next) (hn : φ b = none) (hg : a.get b = some o) (hw : w'.heap = w.heap.push o') (ho : OR φ z o o') (hv : Env w w') :
    Stp φ0 a0 w0 (φ.add b w.heap.size z) a w' := by
  have hle : φ.le (φ.add b w.heap.size z) := Phi.le_add hn
  have hsz : w'.heap.size = w.heap.size + 1 := by rw [hw, Array.size_push]
  have hget : ∀ c, c < w.heap.size → w'.heap[c]? = w.heap[c]? := fun c hc => by rw [hw, Array.getElem?_push, if_neg (Nat.ne_of_lt hc)]
  have hnew : w'.heap[w.heap.size]? = some o' := by rw [hw, Array.getElem?_push, if_pos rfl]
  have hphi : ∀ j c z', φ.add b w.heap.size z j = some (c, z') → (j = b ∧ c = w.heap.size ∧ z' = z) ∨ (j ≠ b ∧ φ j = some (c, z') ∧ c < w.heap.size) := by
    intro j c z' e
    unfold Phi.add at e
    split at e
    · rename_i hb; cases e; exact .inl ⟨hb, rfl, rfl⟩
    · rename_i hb; exact .inr ⟨hb, e, (h.hr.dom _ _ _ e).2⟩
  have hs0 := h.out.1
  refine ⟨h.le.trans hle, fun j hj => ?_, h.nx, ⟨?_, ?_, ?_⟩, ⟨by omega, fun c hc hne => (hget c (by omega)).trans (h.out.2 c hc hne)⟩, ?_, h.env.trans hv⟩
  · unfold Phi.add; rw [if_neg (by omega)]; exact h.old j hj
  · intro j ob c z' hb e
    rcases hphi j c z' e with ⟨rfl, rfl, rfl⟩ | ⟨hne, e2, hc⟩
    · rw [hg] at hb; cases hb
      exact ⟨o', hnew, ho.mono hle⟩
    · obtain ⟨o2, k1, k2⟩ := h.hr.obj j ob c z' hb e2
      exact ⟨o2, (hget c hc).trans k1, k2.mono hle⟩
  · intro j j2 ob ob2 c z1 z2 hb hb2 e1 e2
    rcases hphi j c z1 e1 with ⟨rfl, rfl, rfl⟩ | ⟨hne, f1, hc⟩ <;> rcases hphi j2 _ z2 e2 with ⟨rfl, hcc, rfl⟩ | ⟨hne2, f2, hc2⟩
    · rfl
    · exact absurd hc2 (Nat.lt_irrefl _)
    · subst hcc; exact absurd hc (Nat.lt_irrefl _)
    · exact h.hr.inj j j2 ob ob2 c z1 z2 hb hb2 f1 f2
  · intro j c z' e
    rcases hphi j c z' e with ⟨rfl, rfl, rfl⟩ | ⟨hne, f1, hc⟩
    · exact ⟨h1, by omega⟩
    · exact ⟨(h.hr.dom _ _ _ f1).1, by omega⟩
  · intro j ob c z' hb e hc
    rcases hphi j c z' e with ⟨rfl, rfl, rfl⟩ | ⟨hne, f1, hc2⟩
    · omega
    · exact h.src j ob c z' hb f1 hc
end

/-! ### One run, in some order -/
def E (L : Array Bool) (i : Nat) : Prop := L.getD i false = true
theorem E_set {L : Array Bool} {i : Nat} (hi : i < L.size) (j : Nat) : E (L.setIfInBounds i true) j ↔ j = i ∨ E L j := by
  unfold E
  rw [Array.getD_eq_getD_getElem?, Array.getD_eq_getD_getElem?]
  by_cases h : j = i
  · subst h
    rw [Array.getElem?_setIfInBounds_self_of_lt hi]; simp
  · rw [Array.getElem?_setIfInBounds_ne (fun e => h e.symm)]; simp [h]
structure ActP (ops : Array Oper) (infos : List OI) (n : Nat) (φ0 : Phi) (ah0 : AH) (w0 : World) (ds0 : List Deferred) (φ : Phi) (S : Nat) (s : St) (L : Array Bool) (a : Act) (w : World) : Prop where
  st : Stp φ0 ah0 w0 φ s.ah w
  size : L.size = ops.size
  ED : ∀ x ∈ infos, E L x.i → hasB s.D x.i = true
  cl : ∀ x ∈ infos, E L x.i → ∀ j, hasB x.anc j = true → E L j
  SE : ∀ x ∈ infos, hasB S x.i = true → E L x.i
  past : ∀ r ∈ s.ns, r.k = .past → E L r.x.i
  asz : a.tmps.size = n
  tm : ∀ t v, s.tm.get t = some v → (∀ r ∈ s.ns, r.x.o.dst = some t → E L r.x.i) → VR φ v (a.tmps.getD t undef)
  ds : a.defers = ds0
  vir : ∀ r ∈ s.ns, ∀ b c, r.k = .fresh b c → ¬ E L r.x.i → φ b = none
section
variable {C : Cfg} {ops : Array Oper} {infos : List OI} {n : Nat} {φ0 : Phi} {ah0 : AH} {w0 : World} {ds0 : List Deferred}
theorem passA_ok (hund : C.und = C.P.underlying) (hinf : C.inf = C.P.info?) (hI : Infos ops infos) : ∀ (l : List OI) (s s' : St), (∀ x ∈ l, x ∈ infos) → Canon C ops infos n ah0.next s → passA C ops.toList n l s = some s' →
    Canon C ops infos n ah0.next s' ∧ ∀ φ S L a w, ActP ops infos n φ0 ah0 w0 ds0 φ S s L a w → ActP ops infos n φ0 ah0 w0 ds0 φ S s' L a w
  | [], s, s', _, h, e => by cases e; exact ⟨h, fun _ _ _ _ _ k => k⟩
  | x :: l, s, s', hl, h, e => by
    have hl2 : ∀ y ∈ l, y ∈ infos := fun y hy => hl y (List.mem_cons_of_mem _ hy)
    have hx := hl x (List.mem_cons_self ..)
    unfold passA at e
    rw [cnd_eq] at e
    split at e
    · exact passA_ok hund hinf hI l s s' hl2 h e
    · rename_i hnd
      have hnd : hasB s.D x.i = false := by simpa using hnd
      rw [cnd_eq] at e
      split at e
      · rename_i hp
        split at e
        · rename_i s1 hs
          rcases stepS_ok hund hinf hI h hx hnd hp hs with rfl | ⟨h1, hD, htm, k, hns, hk, hah⟩
          · exact passA_ok hund hinf hI l s1 s' hl2 h e
          · obtain ⟨g1, g2⟩ := passA_ok hund hinf hI l s1 s' hl2 h1 e
            refine ⟨g1, fun φ S L a w hA => g2 φ S L a w ?_⟩
            have hnE : ¬ E L x.i := fun he => by
              have := hA.ED x hx he
              rw [hnd] at this; cases this
            refine ⟨?_, hA.size, fun y hy he => ?_, hA.cl, hA.SE, fun r hr hk2 => ?_, hA.asz, fun t v ht hw => ?_, hA.ds, fun r hr b c hf hn => ?_⟩
            · rcases hah with ⟨_, e2⟩ | ⟨c, _, e2⟩
              · rw [e2]; exact hA.st
              · rw [e2]; exact hA.st.virt _
            · rw [hD, hasB_lor, hA.ED y hy he, Bool.or_true]
            · rw [hns] at hr
              rcases List.mem_cons.1 hr with rfl | hr
              · exact absurd hk2 hk
              · exact hA.past r hr hk2
            · have hd : ∀ d, x.o.dst = some d → t ≠ d := fun d hd et => by
                subst et
                exact hnE (hw ⟨x, k⟩ (by rw [hns]; simp) hd)
              rw [htm t hd] at ht
              exact hA.tm t v ht fun r hr hr2 => hw r (by rw [hns]; simp [hr]) hr2
            · rw [hns] at hr
              rcases List.mem_cons.1 hr with rfl | hr
              · rcases hah with ⟨h2, _⟩ | ⟨c2, h2, _⟩
                · exact absurd hf (h2 b c)
                · have hf : k = .fresh b c := hf
                  rw [h2] at hf
                  cases hf
                  exact hA.st.hr.none_next
              · exact hA.vir r hr b c hf hn
        · cases e
      · exact passA_ok hund hinf hI l s s' hl2 h e
def HeldR (C : Cfg) (s : St) (r : Rec) : Prop :=
  match r.k with
  | .read => ∃ d v, r.x.o.dst = some d ∧ s.tm.get d = some v ∧ opA C.und C.inf s.tm s.ah r.x.o = some (.val v s.ah)
  | .fresh b c => s.ah.get b = some (.cells c)
  | _ => True
theorem heldA_ok {S : Nat} {s : St} {A0 : Nat} (h : Canon C ops infos n A0 s) : ∀ (l : List Rec), (∀ r ∈ l, r ∈ s.ns) → heldA C S s l = true → ∀ r ∈ l, hasB S r.x.i = false → HeldR C s r
  | [], _, _, r, hr, _ => by cases hr
  | q :: l, hl, e, r, hr, hs => by
    unfold heldA at e
    rw [cnd_eq] at e
    split at e
    · rename_i hq
      rcases List.mem_cons.1 hr with rfl | hr
      · rw [hs] at hq; cases hq
      · exact heldA_ok h l (fun r hr => hl r (List.mem_cons_of_mem _ hr)) e r hr hs
    · rw [cnd_eq] at e
      split at e
      · rename_i hk
        rcases List.mem_cons.1 hr with rfl | hr
        · unfold HeldR
          split
          · rename_i hrk
            rw [hrk] at hk
            have hrc := h.rcd r (hl r (List.mem_cons_self ..))
            unfold RecOk at hrc
            rw [hrk] at hrc
            obtain ⟨_, hkind, d, v, hd, hv⟩ := hrc
            unfold heldK at hk
            simp only [hd, hv] at hk
            unfold heldV at hk
            split at hk
            · rename_i v2 a2 ho
              simp only [] at hk
              have := avEq_eq _ _ hk
              subst this
              rw [read_same hkind ho] at ho
              exact ⟨d, _, hd, hv, ho⟩
            · cases hk
          · rename_i b c hrk
            rw [hrk] at hk
            unfold heldK heldC at hk
            simp only [] at hk
            split at hk
            · rename_i c2 hg
              rw [hg, avsEq_eq _ _ hk]
            · cases hk
          · trivial
        · exact heldA_ok h l (fun r hr => hl r (List.mem_cons_of_mem _ hr)) e r hr hs
      · cases e
/-- What an operation that is ready looks at is there. -/
theorem ready_FR (hI : Infos ops infos) {φ : Phi} {S : Nat} {s : St} {L : Array Bool} {a : Act} {w : World} (hA : ActP ops infos n φ0 ah0 w0 ds0 φ S s L a w) {x : OI} (hx : x ∈ infos)
    (hsep : ∀ q ∈ s.ns, ∀ d, q.x.o.dst = some d → hasB x.opm d = true → hasB x.anc q.x.i = true) (hpre : ∀ j, hasB x.pre j = true → E L j) :
    (∀ j, hasB x.anc j = true → E L j) ∧ ∃ tm', FR φ n tm' a.tmps ∧ ∀ t, looks ops.toList x.o t → tm'.get t = s.tm.get t := by
  have hanc : ∀ j, hasB x.anc j = true → E L j := by
    intro j hj
    obtain ⟨e, h1, h2, h3⟩ := hI.anc x hx j hj
    have hp : E L e.on := hpre _ (by rw [hI.pre x hx, preOf_iff]; exact ⟨e, h1, h2, rfl⟩)
    rcases h3 with rfl | ⟨y, hy, hye, hyj⟩
    · exact hp
    · exact hA.cl y hy (by rw [hye]; exact hp) j hyj
  obtain ⟨tm', h1, h2⟩ := restr_looks s.tm ops.toList x.o
  refine ⟨hanc, tm', ⟨hA.asz, fun t v e => ?_⟩, h1⟩
  obtain ⟨h3, h4⟩ := h2 t v e
  exact hA.tm t v h4 fun r hr hd => hanc _ (hsep r hr t hd (looks_opm hI hx h3))
/-- One that was done already, in the one order. -/
theorem ActP.exec (hI : Infos ops infos) {φ ψ : Phi} {S : Nat} {s : St} {L : Array Bool} {a : Act} {w w' : World} (h : Canon C ops infos n ah0.next s) (hA : ActP ops infos n φ0 ah0 w0 ds0 φ S s L a w) {r : Rec} (hr : r ∈ s.ns)
    (hanc : ∀ j, hasB r.x.anc j = true → E L j) (hle : φ.le ψ) (hst : Stp φ0 ah0 w0 ψ s.ah w') {v' : Value} (hv : ∀ d, r.x.o.dst = some d → ∃ v, s.tm.get d = some v ∧ VR ψ v v')
    (hvir : ∀ q ∈ s.ns, ∀ b c, q.k = .fresh b c → q.x ≠ r.x → ¬ E L q.x.i → ψ b = none) : ActP ops infos n φ0 ah0 w0 ds0 ψ S s (L.setIfInBounds r.x.i true) (a.put r.x.o.dst v') w' := by
  have hx := h.mem r hr
  have hlt : r.x.i < L.size := by
    rw [hA.size]
    exact (Array.getElem?_eq_some_iff.1 (hI.at_ r.x hx)).1
  refine ⟨hst, by rw [Array.size_setIfInBounds]; exact hA.size, fun x hx2 he => ?_, fun x hx2 he j hj => ?_, fun x hx2 he => (E_set hlt _).2 (.inr (hA.SE x hx2 he)), fun q hq hk => (E_set hlt _).2 (.inr (hA.past q hq hk)), ?_, fun t v ht hw => ?_, ?_, fun q hq b c hk hn => ?_⟩
  · rcases (E_set hlt _).1 he with e | he
    · rw [hI.uniq x hx2 r.x hx e, h.D _ hx]; exact ⟨r, hr, rfl⟩
    · exact hA.ED x hx2 he
  · rcases (E_set hlt _).1 he with e | he
    · rw [hI.uniq x hx2 r.x hx e] at hj; exact (E_set hlt _).2 (.inr (hanc j hj))
    · exact (E_set hlt _).2 (.inr (hA.cl x hx2 he j hj))
  · cases hd : r.x.o.dst with
    | none => exact hA.asz
    | some d => show (a.tmps.setIfInBounds d v').size = n; rw [Array.size_setIfInBounds]; exact hA.asz
  · cases hd : r.x.o.dst with
    | none =>
      refine (hA.tm t v ht fun q hq hqd => ?_).mono hle
      rcases (E_set hlt _).1 (hw q hq hqd) with e | he
      · rw [hI.uniq _ (h.mem q hq) _ hx e, hd] at hqd; cases hqd
      · exact he
    | some d =>
      have hdn := (h.U2 r hr d hd).2
      show VR ψ v ((a.tmps.setIfInBounds d v').getD t undef)
      by_cases htd : t = d
      · subst htd
        obtain ⟨v2, h1, h2⟩ := hv t hd
        rw [ht] at h1; cases h1
        have : (a.tmps.setIfInBounds t v').getD t undef = v' := by
          rw [Array.getD_eq_getD_getElem?, Array.getElem?_setIfInBounds_self_of_lt (by rw [hA.asz]; exact hdn)]; rfl
        rw [this]; exact h2
      · have : (a.tmps.setIfInBounds d v').getD t undef = a.tmps.getD t undef := by
          rw [Array.getD_eq_getD_getElem?, Array.getD_eq_getD_getElem?, Array.getElem?_setIfInBounds_ne (fun he => htd he.symm)]
        rw [this]
        refine (hA.tm t v ht fun q hq hqd => ?_).mono hle
        rcases (E_set hlt _).1 (hw q hq hqd) with e | he
        · rw [hI.uniq _ (h.mem q hq) _ hx e, hd] at hqd; cases hqd; exact absurd rfl htd
        · exact he
  · cases hd : r.x.o.dst with
    | none => exact hA.ds
    | some d => exact hA.ds
  · rw [E_set hlt] at hn
    refine hvir q hq b c hk (fun e => hn (.inl (by rw [e]))) (fun he => hn (.inr he))
end
section
variable {C : Cfg} {rec : Job → Option Res} (hC : CfgOk C)
  (hcall : ∀ f args ah v ah', rec (.call f args ah) = some (.val v ah') → CallOk C.P C.base f args ah v ah')
  (hround : ∀ l args ah v ah', rec (.round l args ah) = some (.val v ah') → RoundOk C.P C.base l args ah v ah')
include hC hcall hround
variable {ops : Array Oper} {infos : List OI} {n : Nat} {φ0 : Phi} {ah0 : AH} {w0 : World} {ds0 : List Deferred} {F : Fence} (hB : C.base.le φ0) (hF : Wide F) (hI : Infos ops infos)
include hB hF hI
theorem late_ok {φ : Phi} {S : Nat} {s : St} {L : Array Bool} {a : Act} {w : World} {Q : Exit → Act → World → Prop} {K : Act → World → Prop} (h : Canon C ops infos n ah0.next s) (hh : ∀ r ∈ s.ns, hasB S r.x.i = false → HeldR C s r)
    (hA : ActP ops infos n φ0 ah0 w0 ds0 φ S s L a w) {r : Rec} (hr : r ∈ s.ns) (hnE : ¬ E L r.x.i) (hpre : ∀ j, hasB r.x.pre j = true → E L j)
    (hK : ∀ ψ a' w', ActP ops infos n φ0 ah0 w0 ds0 ψ S s (L.setIfInBounds r.x.i true) a' w' → K a' w') : wpOpIn F 0 C.P ops Q r.x.i K a w := by
  have hx := h.mem r hr
  obtain ⟨hanc, tm', hfr, hl⟩ := ready_FR hI hA hx (fun q hq d hd ho => h.sep r hr q hq d hd ho) hpre
  have hS : hasB S r.x.i = false := by
    cases hs : hasB S r.x.i with
    | false => rfl
    | true => exact absurd (hA.SE r.x hx hs) hnE
  have hw : wantA ops.toList tm' r.x.o = wantA ops.toList s.tm r.x.o := wantA_congr hl
  have ho : ∀ ah1, opA C.und C.inf tm' ah1 r.x.o = opA C.und C.inf s.tm ah1 r.x.o := fun ah1 => opA_congr hl
  have hrc := h.rcd r hr
  have hhr := hh r hr hS
  unfold wpOpIn
  rw [hI.at_ r.x hx]
  simp only []
  have hvir : ∀ ψ : Phi, (∀ b, b < s.ah.next → ψ b = φ b) → ∀ q ∈ s.ns, ∀ b c, q.k = .fresh b c → ¬ E L q.x.i → ψ b = none := by
    intro ψ hψ q hq b c hk hn
    have := h.rcd q hq
    unfold RecOk at this
    rw [hk] at this
    rw [hψ b this.2.2.2.1]
    exact hA.vir q hq b c hk hn
  have go : ∀ v, wantA ops.toList s.tm r.x.o = some true → (∀ d, r.x.o.dst = some d → s.tm.get d = some v) → opA C.und C.inf s.tm s.ah r.x.o = some (.val v s.ah) → (if Region.wanted r.x.o (yielded ops a.tmps) = true then r.x.o.wpIn F 0 C.P a w K Q else (∀ f, r.x.o.about C.P w a.eval = some f → F.fn f) ∧ K (a.put r.x.o.dst undef) w) := by
    intro v hwt hv hop
    rw [wantA_ok hfr (hw.trans hwt), if_pos rfl]
    refine doA_ok hC hcall hround (hB.trans hA.st.le) hF hA.st.hr hfr (v := v) (ah' := s.ah) (by unfold doA; rw [ho, hop]; rfl) fun ψ v' w' k1 k2 => hK ψ _ w' ?_
    exact hA.exec hI h hr hanc k1.le (hA.st.trans k1) (fun d hd => ⟨v, hv d hd, k2⟩) fun q hq b c hk _ hn => hvir ψ k1.old q hq b c hk hn
  cases hk : r.k with
  | skip =>
    unfold RecOk at hrc
    rw [hk] at hrc
    rw [wantA_ok hfr (hw.trans hrc.1), if_neg (by decide)]
    refine ⟨fun f _ => hF.fn f, hK φ _ w ?_⟩
    exact hA.exec hI h hr hanc (Phi.le.refl φ) hA.st (fun d hd => ⟨.und, hrc.2 d hd, VR.und φ⟩) fun q hq b c hk _ hn => hA.vir q hq b c hk hn
  | pure =>
    unfold RecOk at hrc
    rw [hk] at hrc
    obtain ⟨h1, d, v, h2, h3, h4⟩ := hrc
    exact go v h1 (fun d2 hd2 => by rw [h2] at hd2; cases hd2; exact h3) (h4 s.ah)
  | read =>
    unfold RecOk at hrc
    rw [hk] at hrc
    unfold HeldR at hhr
    rw [hk] at hhr
    obtain ⟨d, v, h2, h3, h4⟩ := hhr
    exact go v hrc.1 (fun d2 hd2 => by rw [h2] at hd2; cases hd2; exact h3) h4
  | fresh b c =>
    unfold RecOk at hrc
    rw [hk] at hrc
    unfold HeldR at hhr
    rw [hk] at hhr
    obtain ⟨h1, h2, h3, h4, d, mk, h5, h6, h7⟩ := hrc
    rw [wantA_ok hfr (hw.trans h1), if_pos rfl]
    obtain ⟨sv, g1, v', w', z, o', g2, g3, g4, g5⟩ := h7 φ w n tm' a hfr hl
    refine ⟨fun f _ => hF.fn f, ?_⟩
    rw [Oper.semAt_eq _ _ _ (kind_nd (C := C) (by rw [h2]; intro hh; cases hh)), g1]
    rw [Sem.run_bind, g2, Result.andThen_ok, Sem.run_pure]
    have hb0 := hA.vir r hr b c hk hnE
    refine hK (φ.add b w.heap.size z) _ w' ?_
    refine hA.exec hI h hr hanc (Phi.le_add hb0) (hA.st.realize h3 h4 hb0 hhr g3.1 g4 g3.2) (fun d2 hd2 => ?_) fun q hq b2 c2 hk2 hne hn => ?_
    · rw [h5] at hd2; cases hd2
      exact ⟨_, h6, g5 _ _ (Phi.le_add hb0) (Phi.add_self _ _ _ _)⟩
    · have hbb : b2 ≠ b := fun e => hne (h.fr q hq r hr b c2 c (e ▸ hk2) hk)
      unfold Phi.add
      rw [if_neg hbb]
      exact hA.vir q hq b2 c2 hk2 hn
  | past => exact absurd (hA.past r hr hk) hnE
theorem act_ok {φ : Phi} {S : Nat} {s s1 : St} {L : Array Bool} {a : Act} {w : World} {Q : Exit → Act → World → Prop} {K : Act → World → Prop} (h : Canon C ops infos n ah0.next s)
    (hA : ActP ops infos n φ0 ah0 w0 ds0 φ S s L a w) {x : OI} (hx : x ∈ infos) (hnd : hasB s.D x.i = false) (hpd : subB x.pre s.D = true) (hpre : ∀ j, hasB x.pre j = true → E L j) (e : actS C rec ops.toList n x s = some s1)
    (hK : ∀ ψ a' w', Canon C ops infos n ah0.next s1 → ActP ops infos n φ0 ah0 w0 ds0 ψ (Nat.lor (bitB x.i) (Nat.lor x.anc S)) s1 (L.setIfInBounds x.i true) a' w' → K a' w') : wpOpIn F 0 C.P ops Q x.i K a w := by
  unfold actS at e
  rw [cnd_eq] at e
  split at e
  · rename_i hsep
    obtain ⟨hanc, tm', hfr, hl⟩ := ready_FR hI hA hx (fun q hq d hd ho => sepA_iff x s.ns hsep q hq d hd ho) hpre
    split at e
    · rename_i hwt
      unfold actA at e
      split at e
      · rename_i v ah1 hdo
        unfold wpOpIn
        rw [hI.at_ x hx]
        simp only []
        rw [wantA_ok hfr ((wantA_congr hl).trans hwt), if_pos rfl]
        refine doA_ok hC hcall hround (hB.trans hA.st.le) hF hA.st.hr hfr (v := v) (ah' := ah1) (by unfold doA at hdo ⊢; rw [opA_congr hl]; exact hdo) fun ψ v' w' k1 k2 => ?_
        have hlt : x.i < L.size := by
          rw [hA.size]
          exact (Array.getElem?_eq_some_iff.1 (hI.at_ x hx)).1
        have hnE : ¬ E L x.i := fun he => by
          have := hA.ED x hx he
          rw [hnd] at this; cases this
        have hs1 : Canon C ops infos n ah0.next s1 ∧ s1.ah = ah1 ∧ s1.D = Nat.lor (bitB x.i) s.D ∧ s1.ns = ⟨x, .past⟩ :: s.ns ∧ (∀ d, x.o.dst = some d → d < n ∧ s1.tm.get d = some v) ∧ ∀ t, (∀ d, x.o.dst = some d → t ≠ d) → s1.tm.get t = s.tm.get t := by
          unfold putO at e
          split at e
          · rename_i d hd
            refine ⟨Canon.put hI h hx hnd hpd hsep hd k1.nx e (fun _ _ => trivial) (fun b c hh => by cases hh), ?_⟩
            obtain ⟨h1, h2, h3, rfl⟩ := putS_some e
            exact ⟨rfl, rfl, rfl, fun d2 hd2 => by rw [hd] at hd2; cases hd2; exact ⟨h1, T.get_put_self ..⟩, fun t ht => T.get_put_ne _ _ _ (ht d hd)⟩
          · rename_i hd
            refine ⟨Canon.putN hI h hx hnd hpd hsep hd k1.nx e trivial (fun b c hh => by cases hh), ?_⟩
            rw [putN_some e]
            exact ⟨rfl, rfl, rfl, fun d2 hd2 => (by rw [hd] at hd2; cases hd2), fun t ht => rfl⟩
        obtain ⟨hc1, e1, e2, e3, e4, e5⟩ := hs1
        refine hK ψ _ w' hc1 ⟨?_, by rw [Array.size_setIfInBounds]; exact hA.size, fun y hy he => ?_, fun y hy he j hj => ?_, fun y hy he => ?_, fun q hq hk => ?_, ?_, fun t u ht hw => ?_, ?_, fun q hq b c hk hn => ?_⟩
        · rw [e1]; exact hA.st.trans k1
        · rw [e2, hasB_lor, Bool.or_eq_true, hasB_bit, decide_eq_true_iff]
          rcases (E_set hlt _).1 he with e | he
          · exact .inl e.symm
          · exact .inr (hA.ED y hy he)
        · rcases (E_set hlt _).1 he with e | he
          · rw [hI.uniq y hy x hx e] at hj; exact (E_set hlt _).2 (.inr (hanc j hj))
          · exact (E_set hlt _).2 (.inr (hA.cl y hy he j hj))
        · rw [hasB_lor, hasB_lor, Bool.or_eq_true, Bool.or_eq_true, hasB_bit, decide_eq_true_iff] at he
          rcases he with he | he | he
          · exact (E_set hlt _).2 (.inl he.symm)
          · exact (E_set hlt _).2 (.inr (hanc _ he))
          · exact (E_set hlt _).2 (.inr (hA.SE y hy he))
        · rw [e3] at hq
          rcases List.mem_cons.1 hq with rfl | hq
          · exact (E_set hlt _).2 (.inl rfl)
          · exact (E_set hlt _).2 (.inr (hA.past q hq hk))
        · cases hd : x.o.dst with
          | none => exact hA.asz
          | some d => show (a.tmps.setIfInBounds d v').size = n; rw [Array.size_setIfInBounds]; exact hA.asz
        · have hold : (∀ d, x.o.dst = some d → t ≠ d) → VR ψ u (a.tmps.getD t undef) := fun hne => by
            rw [e5 t hne] at ht
            refine (hA.tm t u ht fun q hq hqd => ?_).mono k1.le
            rcases (E_set hlt _).1 (hw q (by rw [e3]; simp [hq]) hqd) with e | he
            · exact absurd rfl (hne t (by rw [← hI.uniq _ (h.mem q hq) _ hx e]; exact hqd))
            · exact he
          cases hd : x.o.dst with
          | none => exact hold fun d hd2 => by rw [hd] at hd2; cases hd2
          | some d =>
            show VR ψ u ((a.tmps.setIfInBounds d v').getD t undef)
            by_cases htd : t = d
            · subst htd
              obtain ⟨h1, h2⟩ := e4 t hd
              rw [ht] at h2; cases h2
              have : (a.tmps.setIfInBounds t v').getD t undef = v' := by
                rw [Array.getD_eq_getD_getElem?, Array.getElem?_setIfInBounds_self_of_lt (by rw [hA.asz]; exact h1)]; rfl
              rw [this]; exact k2
            · have : (a.tmps.setIfInBounds d v').getD t undef = a.tmps.getD t undef := by
                rw [Array.getD_eq_getD_getElem?, Array.getD_eq_getD_getElem?, Array.getElem?_setIfInBounds_ne (fun he => htd he.symm)]
              rw [this]
              exact hold fun d2 hd2 => by rw [hd] at hd2; cases hd2; exact htd
        · cases hd : x.o.dst with
          | none => exact hA.ds
          | some d => exact hA.ds
        · rw [e3] at hq
          rw [E_set hlt] at hn
          rcases List.mem_cons.1 hq with rfl | hq
          · cases hk
          · have := h.rcd q hq
            unfold RecOk at this
            rw [hk] at this
            rw [k1.old b this.2.2.2.1]
            exact hA.vir q hq b c hk fun he => hn (.inr he)
      · cases e
    · cases e
  · cases e
omit hC hcall hround hB hF in
theorem mem_ready {L : Array Bool} (hL : L.size = ops.size) {i : Nat} : i ∈ Region.ready .any ops L ↔ ∃ x ∈ infos, x.i = i ∧ ¬ E L i ∧ ∀ j, hasB x.pre j = true → E L j := by
  unfold Region.ready
  rw [List.mem_filter, List.mem_range, Bool.and_eq_true]
  constructor
  · rintro ⟨h1, h2, h3⟩
    obtain ⟨x, hx, rfl⟩ := hI.all i h1
    refine ⟨x, hx, rfl, fun he => ?_, fun j hj => ?_⟩
    · unfold E at he
      rw [Array.getD_eq_getD_getElem?, Array.getElem?_eq_getElem (by omega)] at he h2
      simp only [Option.getD_some] at he h2
      rw [he] at h2; cases h2
    · rw [hI.at_ x hx] at h3
      simp only [Option.map_some, Option.getD_some] at h3
      rw [hI.pre x hx, preOf_iff] at hj
      obtain ⟨e, g1, g2, rfl⟩ := hj
      rw [Array.all_eq_true_iff_forall_mem] at h3
      have := h3 e (by rwa [← Array.mem_toList_iff])
      rw [g2] at this
      simpa [E] using this
  · rintro ⟨x, hx, rfl, h2, h3⟩
    have hlt := (Array.getElem?_eq_some_iff.1 (hI.at_ x hx)).1
    refine ⟨hlt, ?_, ?_⟩
    · unfold E at h2
      rw [Array.getD_eq_getD_getElem?, Array.getElem?_eq_getElem (by omega)] at h2 ⊢
      simpa using h2
    · rw [hI.at_ x hx]
      simp only [Option.map_some, Option.getD_some]
      rw [Array.all_eq_true_iff_forall_mem]
      intro e he
      cases hb : Region.binds .any e with
      | false => rfl
      | true =>
        have := h3 e.on (by rw [hI.pre x hx, preOf_iff]; exact ⟨e, by rwa [Array.mem_toList_iff], hb, rfl⟩)
        simpa [E] using this
omit hC hcall hround hB hF in
theorem all_done (hlt : preLt infos = true) {L : Array Bool} (hL : L.size = ops.size) (hr : Region.ready .any ops L = []) : ∀ i, i < ops.size → E L i := by
  have hlt : ∀ x ∈ infos, ∀ j, hasB x.pre j = true → j < x.i := by
    clear hr hI hL
    induction infos with
    | nil => intro x hx; cases hx
    | cons y l ih =>
      unfold preLt at hlt
      rw [cnd_eq] at hlt
      split at hlt
      · rename_i hb
        intro x hx j hj
        rcases List.mem_cons.1 hx with rfl | hx
        · have hb : x.pre < bitB x.i := by simpa [Nat.blt_eq] using hb
          have hb : x.pre < 2 ^ x.i := by rw [← Nat.one_shiftLeft]; exact hb
          rcases Nat.lt_or_ge j x.i with h | h
          · exact h
          · rw [hasB_eq, Nat.testBit_lt_two_pow (Nat.lt_of_lt_of_le hb (Nat.pow_le_pow_right (by decide) h))] at hj
            cases hj
        · exact ih hlt x hx j hj
      · cases hlt
  intro i
  induction i using Nat.strongRecOn with
  | _ i ih =>
    intro hi
    by_cases he : E L i
    · exact he
    · obtain ⟨x, hx, rfl⟩ := hI.all i hi
      have : x.i ∈ Region.ready .any ops L := (mem_ready hI hL).2 ⟨x, hx, rfl, he, fun j hj => ih j (hlt x hx j hj) (Nat.lt_trans (hlt x hx j hj) hi)⟩
      rw [hr] at this; cases this
omit hC hcall hround hB hF hI in
theorem readyA_mem (D : Nat) : ∀ (l : List OI) (x : OI), x ∈ readyA D l ↔ x ∈ l ∧ hasB D x.i = false ∧ subB x.pre D = true
  | [], x => by simp [readyA]
  | y :: l, x => by
    unfold readyA
    rw [cnd_eq]
    split
    · rename_i hb
      rw [readyA_mem D l x, List.mem_cons]
      constructor
      · rintro ⟨h1, h2⟩; exact ⟨.inr h1, h2⟩
      · rintro ⟨rfl | h1, h2⟩
        · rw [hb] at h2; cases h2.1
        · exact ⟨h1, h2⟩
    · rename_i hb
      have hb : hasB D y.i = false := by simpa using hb
      rw [cnd_eq]
      split
      · rename_i hs
        rw [List.mem_cons, List.mem_cons, readyA_mem D l x]
        constructor
        · rintro (rfl | ⟨h1, h2⟩)
          · exact ⟨.inl rfl, hb, hs⟩
          · exact ⟨.inr h1, h2⟩
        · rintro ⟨rfl | h1, h2⟩
          · exact .inl rfl
          · exact .inr ⟨h1, h2⟩
      · rename_i hs
        rw [readyA_mem D l x, List.mem_cons]
        constructor
        · rintro ⟨h1, h2⟩; exact ⟨.inr h1, h2⟩
        · rintro ⟨rfl | h1, h2⟩
          · exact absurd h2.2 hs
          · exact ⟨h1, h2⟩
omit hC hcall hround hB hF hI in
theorem fullA_mem (D : Nat) : ∀ (l : List OI), fullA D l = true → ∀ x ∈ l, hasB D x.i = true
  | [], _, x, hx => by cases hx
  | y :: l, h, x, hx => by
    unfold fullA at h
    rw [cnd_eq] at h
    split at h
    · rename_i hb
      rcases List.mem_cons.1 hx with rfl | hx
      · exact hb
      · exact fullA_mem D l h x hx
    · cases h
omit hC hcall hround hB hF hI in
theorem count_set {L : Array Bool} {i : Nat} (hi : i < L.size) (hn : ¬ E L i) : (L.setIfInBounds i true).toList.count false + 1 = L.toList.count false := by
  have hli : i < L.toList.length := by rw [Array.length_toList]; exact hi
  have hv : L.toList[i] = false := by
    unfold E at hn
    rw [Array.getD_eq_getD_getElem?, Array.getElem?_eq_getElem hi] at hn
    simpa using hn
  have hpos : 0 < L.toList.count false := List.count_pos_iff.2 (hv ▸ List.getElem_mem hli)
  rw [Array.toList_setIfInBounds, List.count_set hli, hv]
  simp
  have hpos2 : 0 < Array.count false L := by simpa using hpos
  omega
omit hC hcall hround hB hF hI in
theorem count_zero {L : Array Bool} (h : L.toList.count false = 0) {i : Nat} (hi : i < L.size) : E L i := by
  have hm := List.count_eq_zero.1 h
  unfold E
  rw [Array.getD_eq_getD_getElem?, Array.getElem?_eq_getElem hi]
  simp only [Option.getD_some]
  cases hv : L[i] with
  | true => rfl
  | false => exact absurd (by rw [← hv, Array.mem_toList_iff]; exact Array.getElem_mem hi) hm
theorem stages_ok (hlt : preLt infos = true) {Q : Exit → Act → World → Prop} {sF : St} (hQ : ∀ φ S L a w, Canon C ops infos n ah0.next sF → ActP ops infos n φ0 ah0 w0 ds0 φ S sF L a w → (∀ i, i < ops.size → E L i) → Q .normal a w) :
    ∀ (m S : Nat) (s : St), stagesA C rec ops.toList infos n m S s = some sF → Canon C ops infos n ah0.next s →
      ∀ (fuel : Nat) (L : Array Bool) (φ : Phi) (a : Act) (w : World), ActP ops infos n φ0 ah0 w0 ds0 φ S s L a w → L.toList.count false ≤ fuel → wpAnyIn F 0 C.P .any ops Q fuel L a w := by
  intro m
  induction m with
  | zero => intro S s e; cases e
  | succ m ihm =>
    intro S s e hcan fuel L φ a w hA hc
    unfold stagesA at e
    split at e
    · cases e
    · rename_i s1 hpass
      obtain ⟨hcan1, hpa⟩ := passA_ok (φ0 := φ0) (w0 := w0) (ds0 := ds0) hC.hund hC.hinf hI infos s s1 (fun _ h => h) hcan hpass
      replace hA := hpa φ S L a w hA
      rw [cnd_eq] at e
      split at e
      · rename_i hheld
        have hheld := heldA_ok hcan1 s1.ns (fun _ h => h) hheld
        clear hcan hpass hpa
        induction fuel generalizing L φ a w with
        | zero =>
          have hall : ∀ i, i < ops.size → E L i := fun i hi => count_zero (Nat.le_zero.1 hc) (by rw [hA.size]; exact hi)
          have hnil : Region.ready .any ops L = [] := by
            cases hr : Region.ready .any ops L with
            | nil => rfl
            | cons i l =>
              have : i ∈ Region.ready .any ops L := by rw [hr]; simp
              obtain ⟨x, hx, rfl, hn, _⟩ := (mem_ready hI hA.size).1 this
              exact absurd (hall _ (Array.getElem?_eq_some_iff.1 (hI.at_ x hx)).1) hn
          refine ⟨hnil, ?_⟩
          split at e
          · rw [cnd_eq] at e
            split at e
            · cases e; exact hQ φ S L a w hcan1 hA hall
            · cases e
          · rename_i x hrd
            have hxr := (readyA_mem s1.D infos x).1 (by rw [hrd]; simp)
            have := hA.ED x hxr.1 (hall _ (Array.getElem?_eq_some_iff.1 (hI.at_ x hxr.1)).1)
            rw [hxr.2.1] at this; cases this
          · cases e
        | succ fuel ihf =>
          have hstep : ∀ x ∈ infos, ¬ E L x.i → (L.setIfInBounds x.i true).toList.count false ≤ fuel := fun x hx hn => by
            have := count_set (L := L) (i := x.i) (by rw [hA.size]; exact (Array.getElem?_eq_some_iff.1 (hI.at_ x hx)).1) hn
            omega
          refine ⟨fun hnil => ?_, fun i hi => ?_⟩
          · have hall := all_done hI hlt hA.size hnil
            split at e
            · rw [cnd_eq] at e
              split at e
              · cases e; exact hQ φ S L a w hcan1 hA hall
              · cases e
            · rename_i x hrd
              have hxr := (readyA_mem s1.D infos x).1 (by rw [hrd]; simp)
              have := hA.ED x hxr.1 (hall _ (Array.getElem?_eq_some_iff.1 (hI.at_ x hxr.1)).1)
              rw [hxr.2.1] at this; cases this
            · cases e
          · obtain ⟨y, hy, rfl, hn, hpre⟩ := (mem_ready hI hA.size).1 hi
            cases hD : hasB s1.D y.i with
            | true =>
              obtain ⟨r, hr, rfl⟩ := (hcan1.D y hy).1 hD
              exact late_ok hC hcall hround hB hF hI hcan1 hheld hA hr hn hpre fun ψ a' w' hA' => ihf _ ψ a' w' (hstep _ hy hn) hA'
            | false =>
              have hsub : subB y.pre s1.D = true := by
                rw [subB_iff]
                intro j hj
                have hEj := hpre j hj
                have hjl : j < L.size := by
                  unfold E at hEj
                  rcases Nat.lt_or_ge j L.size with h | h
                  · exact h
                  · rw [Array.getD_eq_getD_getElem?, Array.getElem?_eq_none h] at hEj
                    cases hEj
                obtain ⟨z, hz, rfl⟩ := hI.all j (by rw [← hA.size]; exact hjl)
                exact hA.ED z hz hEj
              have hmem := (readyA_mem s1.D infos y).2 ⟨hy, hD, hsub⟩
              split at e
              · rename_i hrd; rw [hrd] at hmem; cases hmem
              · rename_i x hrd
                rw [hrd] at hmem
                have hyx := List.mem_singleton.1 hmem
                subst hyx
                split at e
                · rename_i s2 hact
                  exact act_ok hC hcall hround hB hF hI hcan1 hA hy hD hsub hpre hact fun ψ a' w' hc2 hA' => ihm _ s2 e hc2 fuel _ ψ a' w' hA' (hstep _ hy hn)
                · cases e
              · cases e
      · cases e
end
end Go.Proofs.YtpmlofbpiajkbaaGreatDoor.M2
