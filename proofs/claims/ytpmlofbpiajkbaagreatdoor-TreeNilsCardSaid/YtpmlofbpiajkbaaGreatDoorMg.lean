/- A verified interpreter: what it says of arithmetic, comparisons, slicing is so. -/
import Derived.Test.YtpmlofbpiajkbaaGreatDoorMf
import Derived.Laws.Cover3
import Derived.Laws.Pointers
import Derived.WideLaws
import Derived.Laws.Small
import Derived.Laws.Strings
import Derived.Lib.Strings
set_option linter.unusedVariables false
set_option linter.unusedSimpArgs false
namespace Go.Proofs.YtpmlofbpiajkbaaGreatDoor.M2
open Go
section
variable {P : Program} {φ : Phi} {ah : AH} {w : World}
theorem bound_run {x : AV} {x' : Value} (hx : VR φ x x') {d top n : Nat} (e : boundA (some x) d top = some n) (w : World) (code : BoundsCode) : (Instr.sliceBound x' top code).run P w = .ok n w := by
  have e : (match asI x with | some n => cnd (decide (0 ≤ n) && decide (n ≤ top)) (some n.toNat) none | none => none) = some n := e
  split at e
  · rename_i k hk
    obtain ⟨kd, rfl⟩ := asI_int hx hk
    rw [cnd_eq] at e
    split at e
    · rename_i hb
      cases e
      rw [Bool.and_eq_true, decide_eq_true_iff, decide_eq_true_iff] at hb
      simp only [Instr.sliceBound, asIntOf, Sem.run_bind, Sem.run_pure, Result.andThen_ok, Sem.run_ite, if_pos hb]
    · cases e
  · cases e
theorem bounds_run {lo hi mx : Option AV} {lo' hi' mx' : Option Value} (hl : ORs φ lo lo') (hh : ORs φ hi hi') (hm : ORs φ mx mx') {len cap l h m : Nat} (e : boundsA len cap lo hi mx = some (l, h, m)) (isS : Bool) (w : World) :
    (Instr.sliceBounds isS len cap lo' hi' mx').run P w = .ok (l, h, m) w := by
  unfold boundsA at e
  split at e
  · cases e
  · rename_i hno
    split at e
    · cases e
    · rename_i m1 hm1
      split at e
      · cases e
      · rename_i h1 hh1
        split at e
        · cases e
        · rename_i l1 hl1
          cases e
          unfold Instr.sliceBounds
          cases hm with
          | none =>
            cases hm1
            cases hh with
            | none =>
              cases hh1
              cases hl with
              | none => cases hl1; rfl
              | some hl => simp only [Sem.run_bind, Sem.run_pure, Result.andThen_ok, bound_run (P := P) hl hl1 w]
            | some hh =>
              cases hl with
              | none => cases hl1; simp only [Sem.run_bind, Sem.run_pure, Result.andThen_ok, bound_run (P := P) hh hh1 w]
              | some hl => simp only [Sem.run_bind, Sem.run_pure, Result.andThen_ok, bound_run (P := P) hh hh1 w, bound_run (P := P) hl hl1 w]
          | some hm =>
            cases hh with
            | none => exact absurd rfl (hno _ rfl)
            | some hh =>
              cases hl with
              | none => cases hl1; simp only [Sem.run_bind, Sem.run_pure, Result.andThen_ok, bound_run (P := P) hm hm1 w, bound_run (P := P) hh hh1 w]
              | some hl => simp only [Sem.run_bind, Sem.run_pure, Result.andThen_ok, bound_run (P := P) hm hm1 w, bound_run (P := P) hh hh1 w, bound_run (P := P) hl hl1 w]
theorem natsEq_eq : ∀ (a b : List Nat), natsEq a b = true ↔ a = b
  | [], [] => by simp [natsEq]
  | [], _ :: _ => by simp [natsEq]
  | _ :: _, [] => by simp [natsEq]
  | a :: l, b :: r => by
    unfold natsEq
    rw [cnd_eq]
    by_cases h : Nat.beq a b = true
    · rw [if_pos h, natsEq_eq l r, Nat.eq_of_beq_eq_true h]; simp
    · rw [if_neg h]
      simp only [Bool.false_eq_true, List.cons.injEq, false_iff, not_and]
      intro e; subst e; exact absurd (Nat.beq_refl a) h
theorem natsEq_str (a b : ByteArray) : natsEq (a.data.toList.map (·.toNat)) (b.data.toList.map (·.toNat)) = (a.toList == b.toList) := by
  have hinj : ∀ x y : List UInt8, x.map (·.toNat) = y.map (·.toNat) ↔ x = y := fun x y => ⟨fun h => (List.map_inj_right (fun p q hpq => UInt8.toNat_inj.1 hpq)).1 h, fun h => by rw [h]⟩
  rw [Bool.eq_iff_iff, natsEq_eq, hinj, beq_iff_eq, ByteArray.toList_eq, ByteArray.toList_eq]
theorem bits_run {op : BinOp} {k : IntKind} {a b : Int} {y : AV} (e : bitsA op k a b = some y) (w : World) : ∃ v, (Op.intBits op k a b).run P w = .ok v w ∧ VR φ y v := by
  unfold bitsA at e
  cases op <;> first | (cases e; exact ⟨_, rfl, .int _ _⟩) | cases e
theorem cmp_run {op : BinOp} {a b : Int} {y : AV} (e : cmpA op a b = some y) (w : World) : ∃ v, (Op.intCmp op a b).run P w = .ok v w ∧ VR φ y v := by
  unfold cmpA at e
  cases op <;> first | (cases e; exact ⟨_, rfl, .bool _⟩) | cases e
theorem un_runs (h : HR φ ah w) {op : UnOp} {x y : AV} {x' : Value} (hx : VR φ x x') (e : unA op x = some y) : Runs P φ ah w (Op.unary op x') y ah := by
  unfold unA at e
  split at e
  · cases e; cases hx; exact Runs.still h rfl (.int _ _)
  · cases hx
    obtain ⟨v, hv, hr⟩ := bits_run (P := P) (φ := φ) e w
    exact Runs.still h hv hr
  · cases e; cases hx; exact Runs.still h rfl (.bool _)
  · cases e
inductive EqSh : Value → Value → Prop
  | ptr (p : Option Addr) : EqSh (.pointer p) (.pointer none)
  | slice (a : Option Addr) (l c : Nat) : EqSh (.slice a l c) (.slice none 0 0)
  | nn : EqSh .nilIface .nilIface
  | bool (a b : Bool) : EqSh (.bool a) (.bool b)
  | iface (t : TypeId) (v : Value) : EqSh (.iface t v) .nilIface
theorem eqNil_run {t : TypeId} {xo yo : Operand} {x y : AV} {x' y' : Value} {b : Bool} (hx : VR φ x x') (hy : VR φ y y') (e : eqNilA P.underlying P.info? t xo yo x y = some b) (w : World) :
    (Op.equal t x' y').run P w = .ok b w ∧ EqSh x' y' ∧ (x' = .nilIface → constOp xo = true ∨ constOp yo = true) := by
  unfold eqNilA at e
  split at e
  · rename_i el hu; cases e; cases hx; cases hy
    exact ⟨run_equal_pointer_nil w t none (by rw [hu]; simp [Program.pointee, hu]), .ptr _, Value.noConfusion⟩
  · rename_i el b o hu; cases e; cases hy
    cases hx
    exact ⟨run_equal_pointer_nil w t _ (by rw [hu]; simp [Program.pointee, hu]), .ptr _, Value.noConfusion⟩
  · rename_i el hu; cases e; cases hx; cases hy
    exact ⟨run_equal_slice_nil w t el none 0 0 hu, .slice _ _ _, Value.noConfusion⟩
  · rename_i el hu; cases e; cases hx; cases hy
    exact ⟨run_equal_slice_nil w t el _ _ _ hu, .slice _ _ _, Value.noConfusion⟩
  · rename_i el b o n c hu; cases e; cases hy
    cases hx <;> exact ⟨run_equal_slice_nil w t el _ _ _ hu, .slice _ _ _, Value.noConfusion⟩
  · rename_i ms hu
    rw [cnd_eq] at e
    split at e
    · rename_i hc; cases e; cases hx; cases hy
      exact ⟨run_equal_nil_nil w t (by rw [hu]; simp [Program.methodsAt, hu]), .nn, fun _ => by simpa using hc⟩
    · cases e
  · rename_i ms t2 v hu; cases e; cases hy
    cases hx
    exact ⟨run_equal_held_nil w t _ _ (by rw [hu]; simp [Program.methodsAt, hu]), .iface _ _, Value.noConfusion⟩
  · rename_i a b hu; cases e; cases hx; cases hy
    exact ⟨run_equalIn_bool w 9999 t a b hu, .bool _ _, Value.noConfusion⟩
  · cases e
theorem constOp_matches (o : Operand) : constOp o = (match o with | .const _ => true | _ => false) := by cases o <;> rfl
theorem eqGuard_run {op : BinOp} {t : TypeId} {xo yo : Operand} {x' y' : Value} (hs : EqSh x' y') (hc : x' = .nilIface → constOp xo = true ∨ constOp yo = true) (w : World) : (eqGuard op t xo yo x' y').run P w = .ok () w := by
  cases hs with
  | ptr p => cases op <;> rfl
  | slice a l c => cases op <;> rfl
  | iface t v => cases op <;> rfl
  | bool a b => cases op <;> rfl
  | nn =>
    have := hc rfl
    cases op <;> first | rfl | (rcases this with h | h <;> (cases xo <;> cases yo <;> first | rfl | (simp [constOp] at h)))
theorem tok_runs (h : HR φ ah w) {op : BinOp} {t : TypeId} {xo yo : Operand} {x y z : AV} {x' y' : Value} (hx : VR φ x x') (hy : VR φ y y') (e : tokA op x y = some z) :
    Runs P φ ah w (do eqGuard op t xo yo x' y'; binOp op t x' y') z ah := by
  have key : ∀ {k : IntKind} {a b : Int} {v : Value}, (binOp op t (.int k a) (.int k b)).run P w = .ok v w → VR φ z v → Runs P φ ah w (do eqGuard op t xo yo (.int k a) (.int k b); binOp op t (.int k a) (.int k b)) z ah := fun {k a b v} hv hr => by
    have hg : (eqGuard op t xo yo (.int k a) (.int k b)).run P w = .ok () w := by cases op <;> rfl
    exact Runs.still h (by rw [Sem.run_bind, hg, Result.andThen_ok]; exact hv) hr
  have ar : ∀ {k : IntKind} {a b : Int}, arithT op k = some z → Runs P φ ah w (do eqGuard op t xo yo (.int k a) (.int k b); binOp op t (.int k a) (.int k b)) z ah := fun {k a b} e => by
    unfold arithT at e
    split at e
    · cases e; refine key (v := .int k (k.wrap (a + b))) ?_ (.anyi k _); simp [binOp, Op.intArith]
    · cases e; refine key (v := .int k (k.wrap (a * b))) ?_ (.anyi k _); simp [binOp, Op.intArith]
    · cases e
  have tr : ∀ {k : IntKind} {a b : Int} {p q : Bool} {r : Bool}, tri p q = some z → (p = true → r = true) → (q = true → r = false) → (binOp op t (.int k a) (.int k b)).run P w = .ok (.bool r) w → Runs P φ ah w (do eqGuard op t xo yo (.int k a) (.int k b); binOp op t (.int k a) (.int k b)) z ah := fun {k a b p q r} e hp hq hr => by
    unfold tri at e
    simp only [cnd_eq] at e
    split at e
    · rename_i h1
      cases e
      rw [hp h1] at hr
      exact key hr (.bool true)
    · split at e
      · rename_i h1
        cases e
        rw [hq h1] at hr
        exact key hr (.bool false)
      · cases e
  have pl : ∀ {k : IntKind} {neg : Bool} {b q zt : Nat} {c lo hi v n : Int}, φ b = some (q, zt) → (v = if neg then c - zt else c + zt) → lo ≤ v → v ≤ hi → tokP k neg b c lo hi n = some z → VR φ z (.int k (k.wrap (v + n))) := fun {k neg b q zt c lo hi v n} h0 hv h1 h2 e => by
    unfold tokP at e
    split at e
    · rw [cnd_eq] at e
      split at e
      · rename_i hb
        rw [Bool.and_eq_true, decide_eq_true_iff, decide_eq_true_iff] at hb
        cases e
        have hw : IntKind.i64.wrap (v + n) = v + n := by rw [IntKind.wrap_i64]; omega
        rw [hw]
        refine .tok .i64 neg (c + n) (lo + n) (hi + n) (v + n) h0 ?_ (by omega) (by omega)
        cases neg <;> simp at hv ⊢ <;> omega
      · cases e
    · cases e
  have ke : ∀ {k k2 : IntKind} {r : Option AV}, kEq k k2 r = some z → k = k2 ∧ r = some z := fun {k k2 r} e => by
    unfold kEq at e
    rw [cnd_eq] at e
    split at e
    · rename_i hk; rw [decide_eq_true_iff] at hk; exact ⟨hk, e⟩
    · cases e
  unfold tokA at e
  split at e
  · rename_i k neg b c lo hi k2 neg2 b2 c2 lo2 hi2
    cases hx with
    | tok _ _ _ _ _ v h1 hv1 _ _ => cases hy with
      | tok _ _ _ _ _ v2 h2 hv2 _ _ =>
        have e9 := ke e
        clear e
        obtain ⟨rfl, e⟩ := e9
        have hvv : ∀ {r : Option AV}, cnd (Nat.beq b b2 && (decide (c = c2) && (neg == neg2))) r none = some z → v = v2 ∧ r = some z := fun {r} e7 => by
          clear e
          rw [cnd_eq] at e7
          split at e7
          · rename_i hb
            rw [Bool.and_eq_true, Bool.and_eq_true, decide_eq_true_iff, beq_iff_eq] at hb
            obtain ⟨hb, rfl, rfl⟩ := hb
            have hb := Nat.eq_of_beq_eq_true hb
            subst hb
            rw [h1] at h2
            cases h2
            exact ⟨hv1.trans hv2.symm, e7⟩
          · cases e7
        unfold tokTT at e
        split at e
        · have e9 := hvv e
          clear e
          obtain ⟨rfl, e⟩ := e9
          cases e; refine key ?_ (.bool true); simp [binOp, Op.intCmp]
        · have e9 := hvv e
          clear e
          obtain ⟨rfl, e⟩ := e9
          cases e; refine key ?_ (.bool false); simp [binOp, Op.intCmp]
        · cases e
  · rename_i k n k2 neg b c lo hi
    cases hx
    cases hy with
    | tok _ _ _ _ _ v h2 hv h3 h4 =>
      have e9 := ke e
      clear e
      obtain ⟨rfl, e⟩ := e9
      unfold tokRI at e
      split at e
      · have := pl h2 hv h3 h4 e
        refine key ?_ (by rw [Int.add_comm] at this; exact this)
        simp [binOp, Op.intArith]
      · unfold tokR at e
        split at e
        · exact tr (r := decide (n < v)) e (fun hh => by rw [decide_eq_true_iff] at hh ⊢; omega) (fun hh => by rw [decide_eq_true_iff] at hh; rw [decide_eq_false_iff_not]; omega) (by simp [binOp, Op.intCmp])
        · exact tr (r := decide (n ≤ v)) e (fun hh => by rw [decide_eq_true_iff] at hh ⊢; omega) (fun hh => by rw [decide_eq_true_iff] at hh; rw [decide_eq_false_iff_not]; omega) (by simp [binOp, Op.intCmp])
        · exact tr (r := decide (n > v)) e (fun hh => by rw [decide_eq_true_iff] at hh ⊢; omega) (fun hh => by rw [decide_eq_true_iff] at hh; rw [decide_eq_false_iff_not]; omega) (by simp [binOp, Op.intCmp])
        · exact tr (r := decide (n ≥ v)) e (fun hh => by rw [decide_eq_true_iff] at hh ⊢; omega) (fun hh => by rw [decide_eq_true_iff] at hh; rw [decide_eq_false_iff_not]; omega) (by simp [binOp, Op.intCmp])
        · cases e
  · rename_i k neg b c lo hi k2 n
    cases hy
    cases hx with
    | tok _ _ _ _ _ v h2 hv h3 h4 =>
      have e9 := ke e
      clear e
      obtain ⟨rfl, e⟩ := e9
      unfold tokLI at e
      split at e
      · have := pl h2 hv h3 h4 e
        refine key ?_ this
        simp [binOp, Op.intArith]
      · unfold tokL at e
        split at e
        · exact tr (r := decide (v < n)) e (fun hh => by rw [decide_eq_true_iff] at hh ⊢; omega) (fun hh => by rw [decide_eq_true_iff] at hh; rw [decide_eq_false_iff_not]; omega) (by simp [binOp, Op.intCmp])
        · exact tr (r := decide (v ≤ n)) e (fun hh => by rw [decide_eq_true_iff] at hh ⊢; omega) (fun hh => by rw [decide_eq_true_iff] at hh; rw [decide_eq_false_iff_not]; omega) (by simp [binOp, Op.intCmp])
        · exact tr (r := decide (v > n)) e (fun hh => by rw [decide_eq_true_iff] at hh ⊢; omega) (fun hh => by rw [decide_eq_true_iff] at hh; rw [decide_eq_false_iff_not]; omega) (by simp [binOp, Op.intCmp])
        · exact tr (r := decide (v ≥ n)) e (fun hh => by rw [decide_eq_true_iff] at hh ⊢; omega) (fun hh => by rw [decide_eq_true_iff] at hh; rw [decide_eq_false_iff_not]; omega) (by simp [binOp, Op.intCmp])
        · cases e
  · rename_i k n k2
    cases hx
    cases hy
    have e9 := ke e
    clear e
    obtain ⟨rfl, e⟩ := e9
    exact ar e
  · cases e
theorem bin_runs (h : HR φ ah w) {op : BinOp} {t : TypeId} {xo yo : Operand} {x y z : AV} {x' y' : Value} (hx : VR φ x x') (hy : VR φ y y') (e : binA P.underlying P.info? op t xo yo x y = some z) :
    Runs P φ ah w (do eqGuard op t xo yo x' y'; binOp op t x' y') z ah := by
  unfold binA at e
  split at e
  · rename_i k a k2 b
    cases hx; cases hy
    have hg : (eqGuard op t xo yo (.int k a) (.int k2 b)).run P w = .ok () w := by cases op <;> rfl
    have key : ∀ {v : Value}, (binOp op t (.int k a) (.int k2 b)).run P w = .ok v w → VR φ z v → Runs P φ ah w (do eqGuard op t xo yo (.int k a) (.int k2 b); binOp op t (.int k a) (.int k2 b)) z ah := fun hv hr =>
      Runs.still h (by rw [Sem.run_bind, hg, Result.andThen_ok]; exact hv) hr
    split at e
    · rw [cnd_eq] at e
      split at e
      · cases e
      · rename_i hb
        cases e
        rw [decide_eq_true_iff] at hb
        refine key ?_ (.int _ _)
        simp only [binOp, Op.shift, if_neg hb, Sem.run_pure]
    · rw [cnd_eq] at e
      split at e
      · cases e
      · rename_i hb
        cases e
        rw [decide_eq_true_iff] at hb
        refine key ?_ (.int _ _)
        simp only [binOp, Op.shift, if_neg hb, Sem.run_pure]
    · rename_i hn1 hn2
      rw [cnd_eq] at e
      split at e
      · rename_i hk
        rw [decide_eq_true_iff] at hk
        subst hk
        split at e
        · cases e; refine key ?_ (.int _ _); simp [binOp, Op.intArith]
        · cases e; refine key ?_ (.int _ _); simp [binOp, Op.intArith]
        · cases e; refine key ?_ (.int _ _); simp [binOp, Op.intArith]
        · rw [cnd_eq] at e
          split at e
          · cases e
          · rename_i hb; cases e; rw [decide_eq_true_iff] at hb; refine key ?_ (.int _ _); simp [binOp, Op.intDiv, hb]
        · rw [cnd_eq] at e
          split at e
          · cases e
          · rename_i hb; cases e; rw [decide_eq_true_iff] at hb; refine key ?_ (.int _ _); simp [binOp, Op.intDiv, hb]
        all_goals first
          | (obtain ⟨v, hv, hr⟩ := bits_run (P := P) (φ := φ) e w; exact key (by simpa [binOp] using hv) hr)
          | (cases op <;> first | (obtain ⟨v, hv, hr⟩ := cmp_run (P := P) (φ := φ) e w; exact key (by simpa [binOp] using hv) hr) | (exfalso; simp_all; done) | (simp [cmpA] at e; done))
      · cases e
  · rename_i a b
    cases hx with
    | str a =>
      cases hy with
      | str b =>
        split at e
        · cases e
          refine Runs.still h (v' := .bool (a.toList == b.toList)) ?_ (by rw [natsEq_str]; exact .bool _)
          rfl
        · cases e
          refine Runs.still h (v' := .bool (!(a.toList == b.toList))) ?_ (by rw [natsEq_str]; exact .bool _)
          rfl
        · cases e
  · split at e
    · rename_i v hv
      cases e
      exact tok_runs h hx hy hv
    unfold nilEqA at e
    split at e
    · obtain ⟨b, hb, rfl⟩ := Option.map_eq_some_iff.1 e
      obtain ⟨h1, h2, h3⟩ := eqNil_run hx hy hb w
      refine Runs.still h (v' := .bool b) ?_ (.bool _)
      rw [Sem.run_bind, eqGuard_run h2 h3, Result.andThen_ok]
      cases h2 <;> simp [binOp, h1]
    · obtain ⟨b, hb, rfl⟩ := Option.map_eq_some_iff.1 e
      obtain ⟨h1, h2, h3⟩ := eqNil_run hx hy hb w
      refine Runs.still h (v' := .bool (!b)) ?_ (.bool _)
      rw [Sem.run_bind, eqGuard_run h2 h3, Result.andThen_ok]
      cases h2 <;> simp [binOp, h1]
    · cases e
theorem boundA_cases {v : Option AV} {d top n : Nat} (e : boundA v d top = some n) : (v = none ∧ n = d) ∨ (v ≠ none ∧ n ≤ top ∧ ∀ d2 top2, n ≤ top2 → boundA v d2 top2 = some n) := by
  cases v with
  | none => cases e; exact .inl ⟨rfl, rfl⟩
  | some x =>
    right
    have e : (match asI x with | some n => cnd (decide (0 ≤ n) && decide (n ≤ top)) (some n.toNat) none | none => none) = some n := e
    split at e
    · rename_i k hk
      rw [cnd_eq] at e
      split at e
      · rename_i hb
        cases e
        rw [Bool.and_eq_true, decide_eq_true_iff, decide_eq_true_iff] at hb
        refine ⟨by simp, by omega, fun d2 top2 h2 => ?_⟩
        show (match asI x with | some n => cnd (decide (0 ≤ n) && decide (n ≤ top2)) (some n.toNat) none | none => none) = _
        rw [hk]
        show cnd _ _ _ = _
        rw [cnd_eq, if_pos (by rw [Bool.and_eq_true, decide_eq_true_iff, decide_eq_true_iff]; omega)]
      · cases e
    · cases e
theorem boundsA_le {lo hi mx : Option AV} {len cap l h m : Nat} (hlc : len ≤ cap) (e : boundsA len cap lo hi mx = some (l, h, m)) :
    l ≤ h ∧ h ≤ m ∧ m ≤ cap ∧ (mx = none → m = cap) ∧ ∀ cap2, cap ≤ cap2 → boundsA len cap2 lo hi mx = some (l, h, if mx.isNone then cap2 else m) := by
  unfold boundsA at e
  split at e
  · cases e
  · rename_i hno
    split at e
    · cases e
    · rename_i m1 hm1
      split at e
      · cases e
      · rename_i h1 hh1
        split at e
        · cases e
        · rename_i l1 hl1
          cases e
          have cm := boundA_cases hm1
          have ch := boundA_cases hh1
          have cl := boundA_cases hl1
          have hlh : l ≤ h := by rcases cl with ⟨_, h⟩ | ⟨_, h, _⟩ <;> omega
          have hmc : m ≤ cap := by rcases cm with ⟨_, h⟩ | ⟨_, h, _⟩ <;> omega
          have hhm : h ≤ m := by
            rcases ch with ⟨h0, h2⟩ | ⟨_, h2, _⟩
            · subst h0
              rcases cm with ⟨h3, h4⟩ | ⟨h3, _, _⟩
              · omega
              · cases mx with
                | none => exact absurd rfl h3
                | some v => exact absurd rfl (hno v rfl)
            · exact h2
          refine ⟨hlh, hhm, hmc, ?_, fun cap2 hc2 => ?_⟩
          · rintro rfl; cases hm1; rfl
          · unfold boundsA
            split
            · rename_i v; exact absurd rfl (hno v rfl)
            · have e1 : boundA mx cap2 cap2 = some (if mx.isNone then cap2 else m) := by
                cases mx with
                | none => rfl
                | some v =>
                  rcases cm with ⟨h0, _⟩ | ⟨_, h2, h3⟩
                  · cases h0
                  · exact h3 cap2 cap2 (by omega)
              rw [e1]
              have e2 : boundA hi len (if mx.isNone then cap2 else m) = some h := by
                rcases ch with ⟨h0, h2⟩ | ⟨_, h2, h3⟩
                · subst h0; subst h2; rfl
                · refine h3 _ _ ?_
                  split <;> omega
              simp only [e2, hl1]
theorem slice_runs (h : HR φ ah w) {t : TypeId} {x y : AV} {x' : Value} {lo hi mx : Option AV} {lo' hi' mx' : Option Value} (hx : VR φ x x') (hl : ORs φ lo lo') (hh : ORs φ hi hi') (hm : ORs φ mx mx') (e : sliceA P.underlying P.info? t x lo hi mx = some y) :
    Runs P φ ah w (Instr.sliceAt t x' lo' hi' mx') y ah := by
  have hadd : ∀ (c o k : Nat), (⟨c, o, none⟩ : Addr).add k = ⟨c, o + k, none⟩ := fun c o k => Addr.add_mid c o k
  unfold sliceA at e
  split at e
  · rename_i s hu
    cases hx with
    | str s =>
      split at e
      · cases e
      · split at e
        · rename_i l h1 m hb
          cases e
          cases hm
          have hsz : (s.data.toList.map (·.toNat)).length = s.size := by rw [List.length_map, Array.length_toList]; rfl
          rw [hsz] at hb
          have hb2 := bounds_run (P := P) hl hh .none hb false w
          refine Runs.still h (v' := .string (s.extract l h1)) ?_ ?_
          · simp only [Instr.sliceAt, Instr.slice, Sem.run_bind, run_underlying hu w, Result.andThen_ok, hb2, Sem.run_pure, Option.isSome_none, Bool.false_eq_true, if_false]
          · have : ((s.data.toList.map (·.toNat)).take h1).drop l = (s.extract l h1).data.toList.map (·.toNat) := by
              rw [Lib.extract_data, List.map_take, List.map_drop, List.drop_take]
            rw [this]
            exact .str _
        · cases e
  · rename_i el hu
    cases hx
    split at e
    · rename_i sz r hs hb
      cases e
      obtain ⟨l, h1, m⟩ := r
      have hb2 := bounds_run (P := P) hl hh hm hb true w
      have hle := boundsA_le (Nat.le_refl 0) hb
      have l0 : l = 0 := by omega
      have h0 : h1 = 0 := by omega
      have m0 : m = 0 := by omega
      subst l0 h0 m0
      refine Runs.still h (v' := .slice none 0 0) ?_ .nils
      simp only [Instr.sliceAt, Instr.slice, Sem.run_bind, run_underlying hu w, Result.andThen_ok, hb2, Sem.run_pure, szOf_run hs]
      rfl
    · cases e
  · rename_i el b o len cap hu
    cases hx with
    | sliceK o n cap hp =>
      split at e
      · rename_i sz l h1 m hs hb
        rw [cnd_eq] at e
        split at e
        · rename_i hm2
          cases e
          have hb2 := bounds_run (P := P) hl hh hm hb true w
          refine Runs.still h ?_ (.sliceK _ _ _ hp)
          simp only [Instr.sliceAt, Instr.slice, Sem.run_bind, run_underlying hu w, Result.andThen_ok, hb2, Sem.run_pure, szOf_run hs]
          rw [cnd_eq]
          by_cases hml : m = l
          · subst hml; simp
          · rw [if_neg (fun hb => hml (Nat.eq_of_beq_eq_true hb)), if_neg hml]
            simp [hadd]
        · cases e
      · cases e
  · rename_i el b o len sz0 hu
    cases hx with
    | @slice _ c0 z0 o n cap sz hp hn hz =>
      split at e
      · rename_i sz l h1 m hs hb
        rw [cnd_eq] at e
        split at e
        · rename_i hsz
          have hsz := Nat.eq_of_beq_eq_true hsz
          subst hsz
          obtain ⟨k1, k2, k3, k4, k5⟩ := boundsA_le (Nat.le_refl _) hb
          have hb2 := bounds_run (P := P) hl hh hm (k5 cap hn) true w
          split at e
          · rename_i v
            rw [cnd_eq] at e
            split at e
            · rename_i hlm
              have hlm := Nat.eq_of_beq_eq_true hlm
              cases e
              have hh1 : h1 = l := by omega
              subst hh1 hlm
              have hrun : (Instr.sliceAt t (.slice (some ⟨c0, o, none⟩) len cap) lo' hi' mx').run P w = .ok (.slice (some ⟨c0, o, none⟩) 0 0) w := by
                simp only [Instr.sliceAt, Instr.slice, Sem.run_bind, run_underlying hu w, Result.andThen_ok, hb2, Sem.run_pure, szOf_run hs, Nat.sub_self, Option.isNone_some, Bool.false_eq_true, if_false, if_true]
              exact Runs.still h hrun (.empty _ _)
            · rename_i hlm
              cases e
              have hml : ¬ m = l := fun e => hlm (by rw [e]; exact Nat.beq_refl l)
              refine Runs.still h ?_ (.sliceK _ _ _ hp)
              simp only [Instr.sliceAt, Instr.slice, Sem.run_bind, run_underlying hu w, Result.andThen_ok, hb2, Sem.run_pure, szOf_run hs, Option.isNone_some, Bool.false_eq_true, if_false, if_neg hml, Option.map_some, hadd]
          · have hmn := k4 rfl
            rw [cnd_eq] at e
            split at e
            · rename_i hlm
              have hlm := Nat.eq_of_beq_eq_true hlm
              cases e
              have hh1 : h1 = l := by omega
              subst hh1
              cases hm
              have hrun : ∃ a, (Instr.sliceAt t (.slice (some ⟨c0, o, none⟩) len cap) lo' hi' none).run P w = .ok (.slice (some a) 0 (cap - h1)) w := by
                by_cases hc : cap = h1
                · refine ⟨⟨c0, o, none⟩, ?_⟩
                  simp only [Instr.sliceAt, Instr.slice, Sem.run_bind, run_underlying hu w, Result.andThen_ok, hb2, Sem.run_pure, szOf_run hs, Nat.sub_self, Option.isNone_none, if_true, if_pos hc]
                · refine ⟨⟨c0, o + h1 * sz, none⟩, ?_⟩
                  simp only [Instr.sliceAt, Instr.slice, Sem.run_bind, run_underlying hu w, Result.andThen_ok, hb2, Sem.run_pure, szOf_run hs, Nat.sub_self, Option.isNone_none, if_true, if_neg hc, Option.map_some, hadd]
              obtain ⟨a, hrun⟩ := hrun
              exact Runs.still h hrun (.empty _ _)
            · rename_i hlm
              cases e
              cases hm
              have hll : ¬ l = len := fun e => hlm (by rw [e]; exact Nat.beq_refl len)
              have hcl : ¬ cap = l := by omega
              refine Runs.still h ?_ (.slice (o + l * sz) (h1 - l) (cap - l) sz hp (by omega) ?_)
              · simp only [Instr.sliceAt, Instr.slice, Sem.run_bind, run_underlying hu w, Result.andThen_ok, hb2, Sem.run_pure, szOf_run hs, Option.isNone_none, if_true, if_neg hcl, Option.map_some, hadd]
              · have : l * sz + (cap - l) * sz = cap * sz := by rw [← Nat.add_mul]; congr 1; omega
                omega
        · cases e
      · cases e
  · rename_i arr b o hu
    cases hx with
    | ptr o hp =>
      split at e
      · rename_i n el hu2
        split at e
        · rename_i sz l h1 m hs hb
          cases e
          have hb2 := bounds_run (P := P) hl hh hm hb false w
          refine Runs.still h ?_ (.sliceK _ _ _ hp)
          simp only [Instr.sliceAt, Instr.slice, asAddr, Sem.run_bind, run_underlying hu w, run_underlying hu2 w, Result.andThen_ok, hb2, Sem.run_pure, szOf_run hs]
          rw [cnd_eq]
          by_cases hml : m = l
          · subst hml; simp
          · rw [if_neg (fun hb => hml (Nat.eq_of_beq_eq_true hb)), if_neg hml, hadd]
        · cases e
      · cases e
  · rename_i n el b o hu
    cases hx with
    | ptr o hp =>
      split at e
      · rename_i sz l h1 m hs hb
        cases e
        have hb2 := bounds_run (P := P) hl hh hm hb false w
        refine Runs.still h ?_ (.sliceK _ _ _ hp)
        simp only [Instr.sliceAt, Instr.sureAddr, Sem.run_bind, run_underlying hu w, Result.andThen_ok, hb2, Sem.run_pure, szOf_run hs]
        rw [cnd_eq]
        by_cases hml : m = l
        · subst hml; simp
        · rw [if_neg (fun hb => hml (Nat.eq_of_beq_eq_true hb)), if_neg hml, hadd]
      · cases e
  · cases e
end
end Go.Proofs.YtpmlofbpiajkbaaGreatDoor.M2
