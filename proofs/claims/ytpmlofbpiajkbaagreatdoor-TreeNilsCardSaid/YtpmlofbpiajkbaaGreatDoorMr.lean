/- A verified interpreter: a region that draws its order: what stays so while it is run in the one order. -/
import Derived.Test.YtpmlofbpiajkbaaGreatDoorMq
set_option linter.unusedVariables false
set_option linter.unusedSimpArgs false
namespace Go.Proofs.YtpmlofbpiajkbaaGreatDoor.M2
open Go
section
variable {C : Cfg} {ops : Array Oper} {infos : List OI} {n A0 : Nat}
/-- What is told of an operation that was done. -/
def RecOk (C : Cfg) (ops : Array Oper) (A0 : Nat) (tm : T AV) (ah : AH) (r : Rec) : Prop :=
  match r.k with
  | .skip => wantA ops.toList tm r.x.o = some false ∧ ∀ d, r.x.o.dst = some d → tm.get d = some .und
  | .pure => wantA ops.toList tm r.x.o = some true ∧ ∃ d v, r.x.o.dst = some d ∧ tm.get d = some v ∧ ∀ ah', opA C.und C.inf tm ah' r.x.o = some (.val v ah')
  | .read => wantA ops.toList tm r.x.o = some true ∧ kindOf C r.x.o = .read ∧ ∃ d v, r.x.o.dst = some d ∧ tm.get d = some v
  | .fresh b c => wantA ops.toList tm r.x.o = some true ∧ kindOf C r.x.o = .fresh ∧ A0 ≤ b ∧ b < ah.next ∧ ∃ d mk, r.x.o.dst = some d ∧ tm.get d = some (mk b) ∧ FreshA C.P ops.toList tm r.x.o mk c
  | .past => True
structure Canon (C : Cfg) (ops : Array Oper) (infos : List OI) (n A0 : Nat) (s : St) : Prop where
  D : ∀ x ∈ infos, hasB s.D x.i = true ↔ ∃ r ∈ s.ns, r.x = x
  mem : ∀ r ∈ s.ns, r.x ∈ infos
  pre : ∀ r ∈ s.ns, subB r.x.pre s.D = true
  U1 : ∀ r ∈ s.ns, ∀ t, hasB r.x.opm t = true → hasB s.U t = true
  U2 : ∀ r ∈ s.ns, ∀ d, r.x.o.dst = some d → hasB s.U d = true ∧ d < n
  wr : ∀ r ∈ s.ns, ∀ q ∈ s.ns, ∀ d, r.x.o.dst = some d → q.x.o.dst = some d → r.x = q.x
  sep : ∀ r ∈ s.ns, ∀ q ∈ s.ns, ∀ d, q.x.o.dst = some d → hasB r.x.opm d = true → hasB r.x.anc q.x.i = true
  rcd : ∀ r ∈ s.ns, RecOk C ops A0 s.tm s.ah r
  fr : ∀ r ∈ s.ns, ∀ q ∈ s.ns, ∀ b c c', r.k = .fresh b c → q.k = .fresh b c' → r.x = q.x
  nx : A0 ≤ s.ah.next
  one : ∀ r ∈ s.ns, ∀ q ∈ s.ns, r.x = q.x → r = q
theorem FreshA.congr {P : Program} {all : List Oper} {tm tm2 : T AV} {o : Oper} {mk : Nat → AV} {cs : List AV} (h : FreshA P all tm o mk cs) (e : ∀ t, looks all o t → tm2.get t = tm.get t) : FreshA P all tm2 o mk cs :=
  fun φ w n tm' a hf hl => h φ w n tm' a hf fun t ht => (hl t ht).trans (e t ht)
theorem RecOk.keep (hI : Infos ops infos) {tm tm' : T AV} {ah ah' : AH} {r : Rec} (hr : r.x ∈ infos) (h : RecOk C ops A0 tm ah r) (h1 : ∀ t, hasB r.x.opm t = true → tm'.get t = tm.get t) (h2 : ∀ d, r.x.o.dst = some d → tm'.get d = tm.get d) (hn : ah.next ≤ ah'.next) : RecOk C ops A0 tm' ah' r := by
  have hl : ∀ t, looks ops.toList r.x.o t → tm'.get t = tm.get t := fun t ht => h1 t (looks_opm hI hr ht)
  have hw : wantA ops.toList tm' r.x.o = wantA ops.toList tm r.x.o := wantA_congr hl
  have ho : ∀ ah0, opA C.und C.inf tm' ah0 r.x.o = opA C.und C.inf tm ah0 r.x.o := fun ah0 => opA_congr hl
  unfold RecOk at *
  split
  · rename_i hk
    rw [hk] at h
    obtain ⟨a, b⟩ := h
    exact ⟨hw.trans a, fun d hd => (h2 d hd).trans (b d hd)⟩
  · rename_i hk
    rw [hk] at h
    obtain ⟨a, d, v, b, c, e⟩ := h
    exact ⟨hw.trans a, d, v, b, (h2 d b).trans c, fun ah0 => (ho ah0).trans (e ah0)⟩
  · rename_i hk
    rw [hk] at h
    obtain ⟨a, k, d, v, b, c⟩ := h
    exact ⟨hw.trans a, k, d, v, b, (h2 d b).trans c⟩
  · rename_i b c hk
    rw [hk] at h
    obtain ⟨a, k, q1, q2, d, mk, q3, q4, q5⟩ := h
    exact ⟨hw.trans a, k, q1, by omega, d, mk, q3, (h2 d q3).trans q4, q5.congr hl⟩
  · trivial
theorem sepA_iff (x : OI) : ∀ (l : List Rec), sepA x l = true → ∀ q ∈ l, ∀ d, q.x.o.dst = some d → hasB x.opm d = true → hasB x.anc q.x.i = true
  | [], _, q, hq, _, _, _ => by cases hq
  | r :: l, h, q, hq, d, hd, ho => by
    unfold sepA at h
    rw [cnd_eq] at h
    split at h
    · rename_i hs
      rcases List.mem_cons.1 hq with rfl | hq
      · unfold sepR at hs
        rw [cnd_eq] at hs
        split at hs
        · assumption
        · rw [hd] at hs
          simp only [ho] at hs
          cases hs
      · exact sepA_iff x l h q hq d hd ho
    · cases h
/-- One operation more is done. -/
theorem Canon.add (hI : Infos ops infos) {s s' : St} {x : OI} {k : NK} (h : Canon C ops infos n A0 s) (hx : x ∈ infos) (hnd : hasB s.D x.i = false) (hp : subB x.pre s.D = true) (hsep : sepA x s.ns = true)
    (hD : s'.D = Nat.lor (bitB x.i) s.D) (hns : s'.ns = ⟨x, k⟩ :: s.ns) (hU : ∀ t, hasB s.U t = true → hasB s'.U t = true) (hU1 : ∀ t, hasB x.opm t = true → hasB s'.U t = true)
    (hU2 : ∀ d, x.o.dst = some d → hasB s'.U d = true ∧ d < n ∧ hasB s.U d = false ∧ hasB x.opm d = false) (htm : ∀ t, (∀ d, x.o.dst = some d → t ≠ d) → s'.tm.get t = s.tm.get t) (hah : s.ah.next ≤ s'.ah.next)
    (hrec : RecOk C ops A0 s'.tm s'.ah ⟨x, k⟩) (hfr : ∀ b c, k = .fresh b c → s.ah.next ≤ b) : Canon C ops infos n A0 s' := by
  have hnew : ∀ r ∈ s.ns, r.x ≠ x := fun r hr e => by
    have := (h.D x hx).2 ⟨r, hr, e⟩
    rw [hnd] at this; cases this
  have hbD : ∀ i, hasB s.D i = true → hasB s'.D i = true := fun i hi => by rw [hD, hasB_lor, hi, Bool.or_true]
  have hnot : ∀ r ∈ s.ns, ∀ d, x.o.dst = some d → r.x.o.dst ≠ some d ∧ hasB r.x.opm d = false := fun r hr d hd => by
    have hu := (hU2 d hd).2.2.1
    refine ⟨fun e => ?_, ?_⟩
    · have := (h.U2 r hr d e).1
      rw [hu] at this; cases this
    · cases ho : hasB r.x.opm d with
      | false => rfl
      | true => have := h.U1 r hr d ho; rw [hu] at this; cases this
  refine ⟨?_, ?_, ?_, ?_, ?_, ?_, ?_, ?_, ?_, Nat.le_trans h.nx hah, ?_⟩
  · intro y hy
    rw [hD, hasB_lor, Bool.or_eq_true, hasB_bit, decide_eq_true_iff, h.D y hy, hns]
    constructor
    · rintro (e | ⟨r, h1, h2⟩)
      · exact ⟨⟨x, k⟩, by simp, hI.uniq x hx y hy e⟩
      · exact ⟨r, by simp [h1], h2⟩
    · rintro ⟨r, h1, h2⟩
      rcases List.mem_cons.1 h1 with rfl | h1
      · exact .inl (by rw [← h2])
      · exact .inr ⟨r, h1, h2⟩
  · intro r hr
    rw [hns] at hr
    rcases List.mem_cons.1 hr with rfl | hr
    · exact hx
    · exact h.mem r hr
  · intro r hr
    rw [hns] at hr
    rw [subB_iff]
    rcases List.mem_cons.1 hr with rfl | hr
    · exact fun i hi => hbD i ((subB_iff _ _).1 hp i hi)
    · exact fun i hi => hbD i ((subB_iff _ _).1 (h.pre r hr) i hi)
  · intro r hr
    rw [hns] at hr
    rcases List.mem_cons.1 hr with rfl | hr
    · exact hU1
    · exact fun t ht => hU t (h.U1 r hr t ht)
  · intro r hr d hd
    rw [hns] at hr
    rcases List.mem_cons.1 hr with rfl | hr
    · exact ⟨(hU2 d hd).1, (hU2 d hd).2.1⟩
    · exact ⟨hU d (h.U2 r hr d hd).1, (h.U2 r hr d hd).2⟩
  · intro r hr q hq d hd1 hd2
    rw [hns] at hr hq
    rcases List.mem_cons.1 hr with rfl | hr <;> rcases List.mem_cons.1 hq with rfl | hq
    · rfl
    · exact absurd hd2 (hnot q hq d hd1).1
    · exact absurd hd1 (hnot r hr d hd2).1
    · exact h.wr r hr q hq d hd1 hd2
  · intro r hr q hq d hd ho
    rw [hns] at hr hq
    rcases List.mem_cons.1 hr with rfl | hr <;> rcases List.mem_cons.1 hq with rfl | hq
    · rw [(hU2 d hd).2.2.2] at ho; cases ho
    · exact sepA_iff x s.ns hsep q hq d hd ho
    · rw [(hnot r hr d hd).2] at ho; cases ho
    · exact h.sep r hr q hq d hd ho
  · intro r hr
    rw [hns] at hr
    rcases List.mem_cons.1 hr with rfl | hr
    · exact hrec
    · refine (h.rcd r hr).keep hI (h.mem r hr) (fun t ht => htm t fun d hd e => ?_) (fun d hd => htm d fun d2 hd2 e => ?_) hah
      · subst e; rw [(hnot r hr t hd).2] at ht; cases ht
      · subst e; exact (hnot r hr d hd2).1 hd
  · intro r hr q hq b c c' hk1 hk2
    have hlt : ∀ r ∈ s.ns, ∀ b c, r.k = .fresh b c → b < s.ah.next := fun r hr b c hk => by
      have := h.rcd r hr
      unfold RecOk at this
      rw [hk] at this
      exact this.2.2.2.1
    rw [hns] at hr hq
    rcases List.mem_cons.1 hr with rfl | hr <;> rcases List.mem_cons.1 hq with rfl | hq
    · rfl
    · have h1 := hfr b c hk1; have h2 := hlt q hq b c' hk2; omega
    · have h1 := hfr b c' hk2; have h2 := hlt r hr b c hk1; omega
    · exact h.fr r hr q hq b c c' hk1 hk2
  · intro r hr q hq e
    rw [hns] at hr hq
    rcases List.mem_cons.1 hr with rfl | hr <;> rcases List.mem_cons.1 hq with rfl | hq
    · rfl
    · exact absurd e.symm (hnew q hq)
    · exact absurd e (hnew r hr)
    · exact h.one r hr q hq e
theorem putS_some {x : OI} {k : NK} {v : AV} {d : Nat} {s s' : St} {ah' : AH} (e : putS n x k v d s ah' = some s') :
    d < n ∧ hasB x.opm d = false ∧ hasB s.U d = false ∧ s' = ⟨Nat.lor (bitB x.i) s.D, Nat.lor (bitB d) (Nat.lor x.opm s.U), ⟨x, k⟩ :: s.ns, s.tm.put d (some v), ah'⟩ := by
  obtain ⟨D, U, ns, tm, ah⟩ := s
  unfold putS at e
  simp only [cnd_eq] at e
  split at e
  · rename_i hd
    split at e
    · cases e
    · rename_i hu
      cases e
      rw [hasB_lor, Bool.or_eq_true, not_or] at hu
      exact ⟨by simpa [Nat.blt_eq] using hd, by simpa using hu.1, by simpa using hu.2, rfl⟩
  · cases e
/-- A result is put where it belongs. -/
theorem Canon.put (hI : Infos ops infos) {s s' : St} {x : OI} {k : NK} {v : AV} {d : Nat} {ah' : AH} (h : Canon C ops infos n A0 s) (hx : x ∈ infos) (hnd : hasB s.D x.i = false) (hp : subB x.pre s.D = true) (hsep : sepA x s.ns = true)
    (hd : x.o.dst = some d) (hah : s.ah.next ≤ ah'.next) (e : putS n x k v d s ah' = some s')
    (hrec : (∀ t, looks ops.toList x.o t → (s.tm.put d (some v)).get t = s.tm.get t) → (s.tm.put d (some v)).get d = some v → RecOk C ops A0 (s.tm.put d (some v)) ah' ⟨x, k⟩) (hfr : ∀ b c, k = .fresh b c → s.ah.next ≤ b) : Canon C ops infos n A0 s' := by
  obtain ⟨h1, h2, h3, rfl⟩ := putS_some e
  refine Canon.add hI h hx hnd hp hsep rfl rfl (fun t ht => ?_) (fun t ht => ?_) (fun d2 hd2 => ?_) (fun t ht => ?_) hah (hrec (fun t ht => ?_) (T.get_put_self ..)) hfr
  · rw [hasB_lor, hasB_lor, ht, Bool.or_true, Bool.or_true]
  · rw [hasB_lor, hasB_lor, ht, Bool.true_or, Bool.or_true]
  · rw [hd] at hd2; cases hd2
    refine ⟨by rw [hasB_lor, hasB_bit, decide_eq_true rfl]; rfl, h1, h3, h2⟩
  · exact T.get_put_ne _ _ _ (ht d hd)
  · refine T.get_put_ne _ _ _ fun e => ?_
    subst e
    have := looks_opm hI hx ht
    rw [h2] at this; cases this
theorem putN_some {x : OI} {k : NK} {s s' : St} {ah' : AH} (e : putN x k s ah' = some s') : s' = ⟨Nat.lor (bitB x.i) s.D, Nat.lor x.opm s.U, ⟨x, k⟩ :: s.ns, s.tm, ah'⟩ := by
  obtain ⟨D, U, ns, tm, ah⟩ := s
  cases e; rfl
theorem Canon.putN (hI : Infos ops infos) {s s' : St} {x : OI} {k : NK} {ah' : AH} (h : Canon C ops infos n A0 s) (hx : x ∈ infos) (hnd : hasB s.D x.i = false) (hp : subB x.pre s.D = true) (hsep : sepA x s.ns = true)
    (hd : x.o.dst = none) (hah : s.ah.next ≤ ah'.next) (e : M2.putN x k s ah' = some s') (hrec : RecOk C ops A0 s.tm ah' ⟨x, k⟩) (hfr : ∀ b c, k = .fresh b c → s.ah.next ≤ b) : Canon C ops infos n A0 s' := by
  rw [putN_some e]
  refine Canon.add hI h hx hnd hp hsep rfl rfl (fun t ht => ?_) (fun t ht => ?_) (fun d2 hd2 => ?_) (fun t ht => rfl) hah hrec hfr
  · rw [hasB_lor, ht, Bool.or_true]
  · rw [hasB_lor, ht, Bool.true_or]
  · rw [hd] at hd2; cases hd2
/-- What a step of the pass comes to: nothing more, or a record more that does not act, and the heap as it was or with one block more. -/
theorem stepS_ok (hund : C.und = C.P.underlying) (hinf : C.inf = C.P.info?) (hI : Infos ops infos) {s s' : St} {x : OI} (h : Canon C ops infos n A0 s) (hx : x ∈ infos) (hnd : hasB s.D x.i = false) (hp : subB x.pre s.D = true) (e : stepS C ops.toList n x s = some s') :
    s' = s ∨ (Canon C ops infos n A0 s' ∧ s'.D = Nat.lor (bitB x.i) s.D ∧ (∀ t, (∀ d, x.o.dst = some d → t ≠ d) → s'.tm.get t = s.tm.get t) ∧ ∃ k, s'.ns = ⟨x, k⟩ :: s.ns ∧ k ≠ .past ∧
      (((∀ b c, k ≠ .fresh b c) ∧ s'.ah = s.ah) ∨ ∃ c, k = .fresh s.ah.next c ∧ s'.ah = s.ah.new (.cells c))) := by
  unfold stepS at e
  rw [cnd_eq] at e
  split at e
  · rename_i hsep
    split at e
    · rename_i hw
      cases hk : kindOf C x.o with
      | act => rw [hk] at e; exact .inl (Option.some.inj e).symm
      | pure =>
        rw [hk] at e
        have e : putP n x .pure s (opA C.und C.inf s.tm s.ah x.o) = some s' := e
        unfold putP at e
        split at e
        · rename_i v a1 ho
          split at e
          · rename_i d hd
            refine .inr ⟨Canon.put hI h hx hnd hp hsep hd (Nat.le_refl _) e (fun hl hv => ⟨(wantA_congr hl).trans hw, d, v, hd, hv, fun ah0 => (opA_congr hl).trans (pure_any hk ho ah0)⟩) (fun b c hh => by cases hh), ?_⟩
            obtain ⟨h1, h2, h3, rfl⟩ := putS_some e
            exact ⟨rfl, fun t ht => T.get_put_ne _ _ _ (ht d hd), .pure, rfl, by simp, .inl ⟨by simp, rfl⟩⟩
          · cases e
        · cases e
      | read =>
        rw [hk] at e
        have e : putP n x .read s (opA C.und C.inf s.tm s.ah x.o) = some s' := e
        unfold putP at e
        split at e
        · rename_i v a1 ho
          split at e
          · rename_i d hd
            refine .inr ⟨Canon.put hI h hx hnd hp hsep hd (Nat.le_refl _) e (fun hl hv => ⟨(wantA_congr hl).trans hw, hk, d, v, hd, hv⟩) (fun b c hh => by cases hh), ?_⟩
            obtain ⟨h1, h2, h3, rfl⟩ := putS_some e
            exact ⟨rfl, fun t ht => T.get_put_ne _ _ _ (ht d hd), .read, rfl, by simp, .inl ⟨by simp, rfl⟩⟩
          · cases e
        · cases e
      | fresh =>
        rw [hk] at e
        have e : putF n x s (opA C.und C.inf s.tm s.ah x.o) = some s' := e
        unfold putF at e
        split at e
        · rename_i v a2 ho
          obtain ⟨mk, cs, rfl, rfl, hfa⟩ := fresh_any hund hinf (all := ops.toList) hk ho
          have hg : (s.ah.new (.cells cs)).get s.ah.next = some (.cells cs) := by rw [AH.get_new, if_pos rfl]
          rw [hg] at e
          unfold putF2 at e
          simp only [] at e
          split at e
          · rename_i d hd
            refine .inr ⟨Canon.put hI h hx hnd hp hsep hd (Nat.le_succ _) e (fun hl hv => ⟨(wantA_congr hl).trans hw, hk, h.nx, Nat.lt_succ_self _, d, mk, hd, hv, hfa.congr hl⟩) (fun b c hh => by cases hh; exact Nat.le_refl _), ?_⟩
            obtain ⟨h1, h2, h3, rfl⟩ := putS_some e
            exact ⟨rfl, fun t ht => T.get_put_ne _ _ _ (ht d hd), .fresh s.ah.next cs, rfl, by simp, .inr ⟨cs, rfl, rfl⟩⟩
          · cases e
        · cases e
    · rename_i hw
      unfold putO at e
      split at e
      · rename_i d hd
        refine .inr ⟨Canon.put hI h hx hnd hp hsep hd (Nat.le_refl _) e (fun hl hv => ⟨(wantA_congr hl).trans hw, fun d2 hd2 => by rw [hd] at hd2; cases hd2; exact hv⟩) (fun b c hh => by cases hh), ?_⟩
        obtain ⟨h1, h2, h3, rfl⟩ := putS_some e
        exact ⟨rfl, fun t ht => T.get_put_ne _ _ _ (ht d hd), .skip, rfl, by simp, .inl ⟨by simp, rfl⟩⟩
      · rename_i hd
        refine .inr ⟨Canon.putN hI h hx hnd hp hsep hd (Nat.le_refl _) e ⟨hw, fun d2 hd2 => by rw [hd] at hd2; cases hd2⟩ (fun b c hh => by cases hh), ?_⟩
        rw [putN_some e]
        exact ⟨rfl, fun t ht => rfl, .skip, rfl, by simp, .inl ⟨by simp, rfl⟩⟩
    · cases e
  · cases e
end
end Go.Proofs.YtpmlofbpiajkbaaGreatDoor.M2
