/- A verified interpreter: what it says of maps is so. -/
import Derived.Test.YtpmlofbpiajkbaaGreatDoorMk
import Derived.Laws.StructEq
import Derived.MapKept
import Derived.WideKeyRuns
import Derived.RangeFuncRecord
set_option linter.unusedVariables false
set_option linter.unusedSimpArgs false
namespace Go.Proofs.YtpmlofbpiajkbaaGreatDoor.M2
open Go
section
variable {P : Program} {φ : Phi} {ah : AH} {w : World}
theorem range_runs (h : HR φ ah w) {t : TypeId} {x y : AV} {x' : Value} {ah' : AH} (hx : VR φ x x') (e : rangeA P.underlying P.info? ah t x = some (y, ah')) : Runs P φ ah w (Instr.range t x') y ah' := by
  unfold rangeA at e
  split at e
  · rename_i s hu
    cases e
    cases hx with
    | str s =>
      refine ⟨_, .pointer (some ⟨w.heap.size, 0, none⟩), w.alloc (.stringIter s 0), ?_, Stp.new (z := 0) h (.strIter s 0), .ptr 0 (Phi.add_self _ _ _ _)⟩
      simp only [Instr.range, Sem.run_bind, run_underlying hu w, Result.andThen_ok, Sem.run_pure, run_newObj]
      rfl
  · rename_i k el b hu
    split at e
    · rename_i es clock hb
      cases e
      cases hx with
      | map hp =>
        obtain ⟨o', h1, h2⟩ := h.obj b _ _ _ hb hp
        cases h2 with
        | map he =>
          refine ⟨_, .pointer (some ⟨w.heap.size, 0, none⟩), w.alloc (.mapIter (some _) clock #[] clock), ?_, Stp.new (z := 0) h (.mapIter clock #[] clock (Phi.le_add h.none_next _ _ hp)), .ptr 0 (Phi.add_self _ _ _ _)⟩
          simp only [Instr.range, Sem.run_bind, run_underlying hu w, Result.andThen_ok, Sem.run_pure, run_newObj, getObj, Sem.run, h1]
          rfl
    · cases e
  · cases e
/-! ### Keys -/
def cellTy : Option TypeDesc → Bool
  | some (.int .i64) => true
  | some .string => true
  | _ => false
/-- A struct of ints and strings alone. -/
def keyTy (P : Program) (t : TypeId) : Bool :=
  match P.underlying t with
  | some (.struct fs) => fs.toList.all fun f => cellTy (P.underlying f.type)
  | _ => false
theorem cellIs2_ty {d : Option TypeDesc} {x : AV} (h : cellIs2 d x = true) : cellIs d x = true ∧ cellTy d = true := by
  unfold cellIs2 at h
  split at h
  · exact ⟨rfl, rfl⟩
  · exact ⟨rfl, rfl⟩
  · cases h
theorem fieldsK_ty : ∀ (fs : List Field) (i : Nat) (cs : List AV), fieldsK P.underlying P.info? i fs cs = true → (fs.all fun f => cellTy (P.underlying f.type)) = true
  | [], _, _, _ => rfl
  | f :: fs, i, [], h => by cases h
  | f :: fs, i, c :: cs, h => by
    unfold fieldsK at h
    rw [cnd_eq] at h
    split at h
    · rename_i hb
      rw [Bool.and_eq_true, Bool.and_eq_true] at hb
      rw [List.all_cons, (cellIs2_ty hb.1.1).2, fieldsK_ty fs (i + 1) cs h]
      rfl
    · cases h
theorem str_inj {a b : ByteArray} (h : a.data.toList.map (·.toNat) = b.data.toList.map (·.toNat)) : a = b := by
  have h2 := (natsEq_str a b).symm.trans ((natsEq_eq _ _).2 h)
  rw [beq_iff_eq, ByteArray.toList_eq, ByteArray.toList_eq] at h2
  cases a; cases b; congr
  exact Array.toList_inj.1 h2
theorem cellEq_true {x y : AV} {x' y' : Value} (hx : VR φ x x') (hy : VR φ y y') (e : cellEq x y = some true) : x' = y' := by
  unfold cellEq at e
  split at e
  · rw [cnd_eq] at e
    split at e
    · rename_i hk
      rw [decide_eq_true_iff] at hk
      cases hx; cases hy
      simp only [Option.some.injEq, beq_iff_eq] at e
      rw [e, hk]
    · cases e
  · cases hx with
    | str a => cases hy with
      | str b =>
        rw [str_inj ((natsEq_eq _ _).1 (Option.some.inj e))]
  · cases e
theorem cellsEq_true : ∀ {l r : List AV} {l' r' : List Value}, VRs φ l l' → VRs φ r r' → cellsEq l r = some true → l' = r'
  | [], [], _, _, hl, hr, _ => by cases hl; cases hr; rfl
  | [], _ :: _, _, _, _, _, e => by cases e
  | _ :: _, [], _, _, _, _, e => by cases e
  | x :: l, y :: r, _, _, hl, hr, e => by
    cases hl with
    | cons a t => cases hr with
      | cons b u =>
        unfold cellsEq at e
        split at e
        · rename_i hc
          rw [cellEq_true a b hc, cellsEq_true t u e]
        · cases e
        · cases e
theorem keyEq_true {x y : AV} {x' y' : Value} (hx : VR φ x x') (hy : VR φ y y') (e : keyEq x y = some true) : x' = y' := by
  unfold keyEq at e
  split at e
  · cases hx with
    | agg a _ => cases hy with
      | agg b _ => rw [Array.toList_inj.1 (cellsEq_true a b e)]
  · exact cellEq_true hx hy e
theorem cellEq_cases {x y : AV} {q : Bool} (e : cellEq x y = some q) : (∃ k a b, x = .int k a ∧ y = .int k b ∧ q = (a == b)) ∨ (∃ a b, x = .str a ∧ y = .str b ∧ q = natsEq a b) := by
  unfold cellEq at e
  split at e
  · rw [cnd_eq] at e
    split at e
    · rename_i hk
      rw [decide_eq_true_iff] at hk
      subst hk
      cases e
      exact .inl ⟨_, _, _, rfl, rfl, rfl⟩
    · cases e
  · cases e
    exact .inr ⟨_, _, rfl, rfl, rfl⟩
  · cases e
theorem keyEq_cell {d : Option TypeDesc} {x : AV} (h : cellIs d x = true) (y : AV) : keyEq x y = cellEq x y := by
  unfold cellIs at h
  split at h
  · rfl
  · rfl
  · cases h
/-- One cell's '=='. -/
theorem cell_equal {t : TypeId} {x y : AV} {x' y' : Value} {r : Bool} (hx : VR φ x x') (hy : VR φ y y') (hc : cellIs (P.underlying t) x = true) (e : cellEq x y = some r) (d : Nat) (w : World) : (Op.equalIn (d + 1) t x' y').run P w = .ok r w := by
  unfold cellEq at e
  split at e
  · rw [cnd_eq] at e
    split at e
    · rename_i hk
      rw [decide_eq_true_iff] at hk
      subst hk
      cases hx; cases hy
      cases e
      unfold cellIs at hc
      split at hc
      · rename_i kk _ _ hu heq
        exact run_equalIn_int w d t _ kk _ _ hu
      · rename_i heq; cases heq
      · cases hc
    · cases e
  · cases hx with
    | str a => cases hy with
      | str b =>
        unfold cellIs at hc
        split at hc
        · rename_i heq; cases heq
        · rename_i hu heq
          rw [run_equalIn_string w d t a b hu, ← natsEq_str]
          rw [Option.some.inj e]
        · cases hc
  · cases e
theorem cellIs_isAg {t : TypeId} {x : AV} (hc : cellIs (P.underlying t) x = true) : isAg P.underlying P.info? t = some false := by
  unfold cellIs at hc
  unfold isAg
  split at hc
  · rename_i hu; rw [hu]
  · rename_i hu; rw [hu]
  · cases hc
theorem part_cell {t : TypeId} {x : AV} {xs : Array Value} {v : Value} {i : Nat} (hc : cellIs (P.underlying t) x = true) (hv : xs.toList[i]? = some v) (w : World) : (part t xs i).run P w = .ok v w := by
  rw [Array.getElem?_toList] at hv
  simp only [part, Sem.run_bind, isAg_run (cellIs_isAg hc), Result.andThen_ok, Bool.false_eq_true, if_false, hv, Sem.run_pure]
theorem fields_equal {xs ys : Array Value} (d : Nat) (w : World) : ∀ (fs : List Field) (i : Nat) (cs ds : List AV) (r : Bool), fieldsK P.underlying P.info? i fs cs = true → VRs φ cs (xs.toList.drop i) → VRs φ ds (ys.toList.drop i) → cellsEq cs ds = some r → (Op.eqFields (d + 1) xs ys fs).run P w = .ok r w
  | [], i, [], ds, r, _, _, hd, e => by
    cases ds with
    | nil => cases e; rfl
    | cons _ _ => cases e
  | [], i, _ :: _, ds, r, h, _, _, _ => by cases h
  | f :: fs, i, [], ds, r, h, _, _, _ => by cases h
  | f :: fs, i, c :: cs, [], r, _, _, _, e => by cases e
  | f :: fs, i, c :: cs, d2 :: ds, r, h, hc, hd, e => by
    unfold fieldsK at h
    rw [cnd_eq] at h
    split at h
    · rename_i hb
      rw [Bool.and_eq_true, Bool.and_eq_true, decide_eq_true_iff] at hb
      obtain ⟨⟨h1, h2⟩, h3⟩ := hb
      have h1 := (cellIs2_ty h1).1
      have h2 := Nat.eq_of_beq_eq_true h2
      have hcl := hc.length
      have hdl := hd.length
      generalize hX : xs.toList.drop i = X at hc
      generalize hY : ys.toList.drop i = Y at hd
      cases hc with
      | cons a t => cases hd with
        | cons b u =>
          rename_i v X2 v2 Y2
          have hxi : xs.toList[i]? = some v := by
            have := congrArg (fun l => l[0]?) hX
            simpa using this
          have hyi : ys.toList[i]? = some v2 := by
            have := congrArg (fun l => l[0]?) hY
            simpa using this
          have hX2 : xs.toList.drop (i + 1) = X2 := by
            have := congrArg List.tail hX
            simpa [List.tail_drop] using this
          have hY2 : ys.toList.drop (i + 1) = Y2 := by
            have := congrArg List.tail hY
            simpa [List.tail_drop] using this
          unfold Op.eqFields
          rw [if_pos h3]
          have p1 := part_cell (P := P) h1 hxi w
          have p2 := part_cell (P := P) h1 hyi w
          rw [← h2] at p1 p2
          unfold cellsEq at e
          split at e
          · rename_i hce
            have q := cell_equal (P := P) a b h1 hce d w
            have ih := fields_equal d w fs (i + 1) cs ds r h (hX2 ▸ t) (hY2 ▸ u) e
            simp only [Sem.run_bind, p1, p2, q, Result.andThen_ok, Bool.not_true, Bool.false_eq_true, if_false]
            exact ih
          · rename_i hce
            have q := cell_equal (P := P) a b h1 hce d w
            cases e
            simp only [Sem.run_bind, p1, p2, q, Result.andThen_ok, Bool.not_false, if_true, Sem.run_pure]
          · cases e
    · cases h
theorem key_equal (hst : ∀ t, kOk t = true → P.stoodInHeld t = false) {t : TypeId} {x y : AV} {x' y' : Value} {r : Bool} (hx : VR φ x x') (hy : VR φ y y') (hc : keyIs P.underlying P.info? t x = true) (e : keyEq x y = some r) (d : Nat) (w : World) : (Op.equalIn (d + 2) t x' y').run P w = .ok r w := by
  unfold keyIs at hc
  split at hc
  · rename_i fs cs hu
    rw [cnd_eq] at hc
    split at hc
    case isFalse => cases hc
    rename_i hk
    unfold keyEq at e
    split at e
    · rename_i a b heq
      cases heq
      cases hx with
      | agg a _ => cases hy with
        | agg b _ =>
          have hf : P.fieldsOf t = fs := by simp [Program.fieldsOf, hu]
          rw [run_equalIn_struct w (d + 1) t _ _ (by rw [hf]; exact hu) (hst t hk), hf]
          exact fields_equal d w fs.toList 0 _ _ r hc (by simpa using a) (by simpa using b) e
    · unfold cellEq at e
      split at e
      · rename_i heq _; cases heq
      · rename_i heq _; cases heq
      · cases e
  · unfold keyEq at e
    split at e
    · unfold cellIs at hc
      split at hc
      · rename_i heq; cases heq
      · rename_i heq; cases heq
      · cases hc
    · exact cell_equal hx hy hc e (d + 1) w
theorem key_check {t : TypeId} {x : AV} {x' : Value} (hx : VR φ x x') (hc : keyIs P.underlying P.info? t x = true) (b : Bool) (n : Nat) (w : World) : (Instr.checkKey b (n + 2) t x').run P w = .ok () w := by
  have scal : ∀ {t : TypeId} {x : AV} {x' : Value} (n : Nat), VR φ x x' → cellIs (P.underlying t) x = true → (Instr.checkKey b (n + 1) t x').run P w = .ok () w := by
    intro t x x' n hx hc
    unfold cellIs at hc
    split at hc
    · rename_i hu
      cases hx
      unfold Instr.checkKey
      simp only [Sem.run_bind, run_underlying hu w, Result.andThen_ok]
      rfl
    · rename_i hu
      cases hx
      unfold Instr.checkKey
      simp only [Sem.run_bind, run_underlying hu w, Result.andThen_ok]
      rfl
    · cases hc
  unfold keyIs at hc
  split at hc
  · rename_i fs cs hu
    rw [cnd_eq] at hc
    split at hc
    case isFalse => cases hc
    rename_i hk
    cases hx with
    | @agg _ xs a _ =>
      unfold Instr.checkKey
      simp only [Sem.run_bind, run_underlying hu w, Result.andThen_ok]
      rw [← Array.forIn_toList]
      have key : ∀ (fs : List Field) (i : Nat) (cs : List AV), fieldsK P.underlying P.info? i fs cs = true → VRs φ cs (xs.toList.drop i) →
          (forIn fs PUnit.unit (fun (f : Field) (_ : PUnit) => (do if f.name ≠ "_" then { let x ← part f.type xs f.offset; Instr.checkKey b (n + 1) f.type x }; pure (ForInStep.yield PUnit.unit) : Sem (ForInStep PUnit)))).run P w = .ok PUnit.unit w := by
        intro fs
        induction fs with
        | nil => intro i cs _ _; rfl
        | cons f fs ih =>
          intro i cs h hcs
          cases cs with
          | nil => cases h
          | cons c cs =>
            unfold fieldsK at h
            rw [cnd_eq] at h
            split at h
            · rename_i hb
              rw [Bool.and_eq_true, Bool.and_eq_true, decide_eq_true_iff] at hb
              obtain ⟨⟨h1, h2⟩, h3⟩ := hb
              have h1 := (cellIs2_ty h1).1
              have h2 := Nat.eq_of_beq_eq_true h2
              generalize hX : xs.toList.drop i = X at hcs
              cases hcs with
              | cons a t =>
                rename_i v X2
                have hxi : xs.toList[i]? = some v := by
                  have := congrArg (fun l => l[0]?) hX
                  simpa using this
                have hX2 : xs.toList.drop (i + 1) = X2 := by
                  have := congrArg List.tail hX
                  simpa [List.tail_drop] using this
                have p1 := part_cell (P := P) h1 hxi w
                rw [← h2] at p1
                have p2 := scal n a h1
                simp only [List.forIn_cons, Sem.run_bind, if_pos h3, p1, p2, Result.andThen_ok, Sem.run_pure]
                exact ih (i + 1) cs h (hX2 ▸ t)
            · cases h
      have := key fs.toList 0 cs hc (by simpa using a)
      rw [this]
      rfl
  · exact scal (n + 1) hx hc
theorem key_stays {t : TypeId} {x : AV} {x' : Value} (hx : VR φ x x') (hc : keyIs P.underlying P.info? t x = true) (w : World) : (Instr.keyThatStays x' x').run P w = .ok x' w := by
  have scal : ∀ {t : TypeId} {x : AV} {x' : Value} (n : Nat), VR φ x x' → cellIs (P.underlying t) x = true → Instr.sameBits n x' x' = true := by
    intro t x x' n hx hc
    unfold cellIs at hc
    split at hc
    · cases hx; cases n <;> simp [Instr.sameBits]
    · cases hx; cases n <;> (simp only [Instr.sameBits]; rw [beq_toListBytes]; simp)
    · cases hc
  have hb : Instr.sameBits 10000 x' x' = true := by
    unfold keyIs at hc
    split at hc
    · rename_i fs cs hu
      rw [cnd_eq] at hc
      split at hc
      case isFalse => cases hc
      rename_i hk
      cases hx with
      | @agg _ xs a _ =>
        have key : ∀ (fs : List Field) (i : Nat) (cs : List AV) (vs : List Value), fieldsK P.underlying P.info? i fs cs = true → VRs φ cs vs → (vs.zip vs).all (fun (x, y) => Instr.sameBits 9999 x y) = true := by
          intro fs
          induction fs with
          | nil =>
            intro i cs vs h hv
            cases cs with
            | nil => cases hv; rfl
            | cons _ _ => cases h
          | cons f fs ih =>
            intro i cs vs h hv
            cases cs with
            | nil => cases h
            | cons c cs =>
              unfold fieldsK at h
              rw [cnd_eq] at h
              split at h
              · rename_i hb
                rw [Bool.and_eq_true, Bool.and_eq_true, decide_eq_true_iff] at hb
                cases hv with
                | cons a t =>
                  rw [List.zip_cons_cons, List.all_cons, Bool.and_eq_true]
                  exact ⟨scal 9999 a (cellIs2_ty hb.1.1).1, ih _ _ _ h t⟩
              · cases h
        have := key fs.toList 0 cs xs.toList hc a
        show (xs.size == xs.size && (xs.toList.zip xs.toList).all fun (x, y) => Instr.sameBits 9999 x y) = true
        rw [this]; simp
    · exact scal 10000 hx hc
  unfold Instr.keyThatStays
  rw [if_pos hb]
  rfl
inductive FoR (φ : Phi) : Option (Nat × AV) → Option (Nat × Value) → Prop
  | none : FoR φ none none
  | some {v : AV} {v' : Value} (i : Nat) (h : VR φ v v') : FoR φ (some (i, v)) (some (i, v'))
theorem find_run (hst : ∀ t, kOk t = true → P.stoodInHeld t = false) {t : TypeId} {k : AV} {k' : Value} (hk : VR φ k k') (hc : keyIs P.underlying P.info? t k = true) : ∀ (es : List (AV × AV × Nat)) (i : Nat) {es' : List MapEntry} {r : Option (Nat × AV)}, ERs φ es es' → findA k es i = some r →
    ∃ r', FoR φ r r' ∧ ∀ w, (Instr.findAsking t k' es' i).run P w = .ok r' w
  | [], i, _, r, h, e => by cases h; cases e; exact ⟨none, .none, fun _ => rfl⟩
  | (k2, v, b) :: es, i, _, r, h, e => by
    cases h with
    | cons h1 h2 h3 h4 =>
      unfold findA at e
      split at e
      · rename_i he
        cases e
        refine ⟨_, .some i h2, fun w => ?_⟩
        have := key_equal hst hk h1 hc he 9998 w
        simp only [Instr.findAsking, Op.equal, Op.maxDepth, Sem.run_bind, this, Result.andThen_ok, if_true, Sem.run_pure]
      · rename_i he
        obtain ⟨r', g1, g2⟩ := find_run hst hk hc es (i + 1) h4 e
        refine ⟨r', g1, fun w => ?_⟩
        have := key_equal hst hk h1 hc he 9998 w
        simp only [Instr.findAsking, Op.equal, Op.maxDepth, Sem.run_bind, this, Result.andThen_ok, Bool.false_eq_true, if_false]
        exact g2 w
      · cases e
theorem find_now {t : TypeId} {k : AV} {k' : Value} (hk : VR φ k k') {d : TypeDesc} (hd : P.underlying t = some d) (hs : ∀ fs, d ≠ .struct fs) (hc : keyIs P.underlying P.info? t k = true) : ∀ (es : List (AV × AV × Nat)) (i : Nat) {es' : List MapEntry} {r : Option (Nat × AV)}, ERs φ es es' → findA k es i = some r →
    ∃ r', FoR φ r r' ∧ Instr.findNow d k' es' i = some r'
  | [], i, _, r, h, e => by cases h; cases e; exact ⟨none, .none, rfl⟩
  | (k2, v, b) :: es, i, _, r, h, e => by
    cases h with
    | @cons _ _ _ e2 _ _ h1 h2 h3 h4 =>
      have hsame : ∀ q, keyEq k k2 = some q → Instr.sameNow d k' e2.key = some q := by
        intro q hq
        unfold keyIs at hc
        split at hc
        · rename_i fs _ hu
          rw [hu] at hd; cases hd
          exact absurd rfl (hs fs)
        · have hc0 := hc
          unfold cellIs at hc
          split at hc
          · rename_i hu _
            rw [hu] at hd; cases hd
            have hq2 := (keyEq_cell (hc0 : cellIs (P.underlying t) _ = true) k2).symm.trans hq
            rcases cellEq_cases hq2 with ⟨kk, a, b, e1, e3, e4⟩ | ⟨a, b, e1, _, _⟩
            · cases e1
              subst e3 e4
              cases hk
              generalize e2.key = u at h1
              cases h1
              simp [Instr.sameNow]
            · cases e1
          · rename_i hu _
            rw [hu] at hd; cases hd
            have hq2 := (keyEq_cell (hc0 : cellIs (P.underlying t) _ = true) k2).symm.trans hq
            rcases cellEq_cases hq2 with ⟨kk, a, b, e1, e3, e4⟩ | ⟨a, b, e1, e3, e4⟩
            · cases e1
            · cases e1
              subst e3 e4
              cases hk with
              | str s1 =>
                generalize e2.key = v2 at h1
                cases h1 with
                | str s2 =>
                  simp only [Instr.sameNow]
                  rw [natsEq_str, ← beq_toListBytes]
          · cases hc
      unfold findA at e
      split at e
      · rename_i he
        cases e
        refine ⟨_, .some i h2, ?_⟩
        simp only [Instr.findNow, hsame _ he]
      · rename_i he
        obtain ⟨r', g1, g2⟩ := find_now hk hd hs hc es (i + 1) h4 e
        exact ⟨r', g1, by simp only [Instr.findNow, hsame _ he]; exact g2⟩
      · cases e
theorem findKey_run (hst : ∀ t, kOk t = true → P.stoodInHeld t = false) {t : TypeId} {k : AV} {k' : Value} (hk : VR φ k k') (hc : keyIs P.underlying P.info? t k = true) {es : List (AV × AV × Nat)} {es' : List MapEntry} {r : Option (Nat × AV)} (h : ERs φ es es') (e : findA k es 0 = some r) :
    ∃ r', FoR φ r r' ∧ ∀ w, (Instr.findKey t k' es').run P w = .ok r' w := by
  have hd : ∃ d, P.underlying t = some d := by
    cases hu : P.underlying t with
    | some d => exact ⟨d, rfl⟩
    | none => unfold keyIs at hc; rw [hu] at hc; cases k <;> cases hc
  obtain ⟨d, hd⟩ := hd
  by_cases hs : ∃ fs, d = .struct fs
  · obtain ⟨fs, rfl⟩ := hs
    obtain ⟨r', g1, g2⟩ := find_run hst hk hc es 0 h e
    exact ⟨r', g1, fun w => by rw [run_findKey_eq w (by rw [hd])]; exact g2 w⟩
  · obtain ⟨r', g1, g2⟩ := find_now hk hd (fun fs he => hs ⟨fs, he⟩) hc es 0 h e
    exact ⟨r', g1, fun w => by simp only [Instr.findKey, Sem.run_bind, run_underlying hd w, Result.andThen_ok, g2, Sem.run_pure]⟩
theorem getObj_map {r : Nat} {es : Array MapEntry} {clock : Nat} (h : w.heap[r]? = some (.map es clock)) : (getObj r).run P w = .ok (.map es clock) w := by simp [getObj, Sem.run, h]
theorem entries_run (h : HR φ ah w) {x : AV} {x' : Value} {es : List (AV × AV × Nat)} (hx : VR φ x x') (e : entriesA ah x = some es) :
    (x' = .map none ∧ es = []) ∨ ∃ r es' clock, x' = .map (some r) ∧ w.heap[r]? = some (.map es' clock) ∧ ERs φ es es'.toList := by
  unfold entriesA at e
  split at e
  · cases e; cases hx; exact .inl ⟨rfl, rfl⟩
  · split at e
    · rename_i hb
      cases e
      cases hx with
      | map hp =>
        obtain ⟨o', h1, h2⟩ := h.obj _ _ _ _ hb hp
        cases h2 with
        | map he => exact .inr ⟨_, _, _, rfl, h1, he⟩
    · cases e
  · cases e
theorem lookup_runs (hst : ∀ t, kOk t = true → P.stoodInHeld t = false) (h : HR φ ah w) {t : TypeId} {x i y : AV} {x' i' : Value} {ok : Bool} (hx : VR φ x x') (hi : VR φ i i') (e : lookupA P.underlying P.info? ah t x i ok = some y) : Runs P φ ah w (Instr.lookup t x' i' ok) y ah := by
  unfold lookupA at e
  split at e
  · rename_i kt el hu
    rw [cnd_eq] at e
    split at e
    · rename_i hc
      split at e
      · rename_i z es hz hes
        obtain ⟨zv, hz1, hz2, _⟩ := zeroA_run hz φ w
        have hck : ∀ b, (Instr.checkKey b 10000 kt i').run P w = .ok () w := fun b => key_check hi hc b 9998 w
        have hend : ∀ (es' : Array MapEntry), ERs φ es es'.toList → Runs P φ ah w (do
            let (v, ok2) ← match ← Instr.findKey kt i' es'.toList with
              | some (_, v) => pure (v, true)
              | none => pure (← zeroValue el, false)
            pure (if ok then .tuple #[v, .bool ok2] else v)) y ah := by
          intro es' he
          unfold lookR at e
          split at e
          · rename_i j v hf
            obtain ⟨r', g1, g2⟩ := findKey_run hst hi hc he hf
            cases g1 with
            | @some _ v' _ hv =>
              cases e
              refine Runs.still h (v' := if ok then .tuple #[v', .bool true] else v') ?_ ?_
              · simp only [Sem.run_bind, g2, Result.andThen_ok, Sem.run_pure]
              · cases ok
                · exact hv
                · exact .tup (a := #[_, .bool true]) (.cons hv (.cons (.bool true) .nil))
          · rename_i hf
            obtain ⟨r', g1, g2⟩ := findKey_run hst hi hc he hf
            cases g1
            cases e
            refine Runs.still h (v' := if ok then .tuple #[zv, .bool false] else zv) ?_ ?_
            · simp only [Sem.run_bind, g2, hz1, Result.andThen_ok, Sem.run_pure]
            · cases ok
              · exact hz2
              · exact .tup (a := #[zv, .bool false]) (.cons hz2 (.cons (.bool false) .nil))
          · cases e
        rcases entries_run h hx hes with ⟨rfl, rfl⟩ | ⟨r, es', clock, rfl, h1, h2⟩
        · obtain ⟨ψ, v', w', g1, g2, g3⟩ := hend #[] .nil
          refine ⟨ψ, v', w', ?_, g2, g3⟩
          rw [← g1]
          simp only [Instr.lookup, Sem.run_bind, run_underlying hu w, Result.andThen_ok, Sem.run_pure, hck]
          rfl
        · obtain ⟨ψ, v', w', g1, g2, g3⟩ := hend es' h2
          refine ⟨ψ, v', w', ?_, g2, g3⟩
          rw [← g1]
          simp only [Instr.lookup, Sem.run_bind, run_underlying hu w, Result.andThen_ok, Sem.run_pure, getObj_map h1, hck]
          rfl
      · cases e
    · cases e
  · cases e
theorem ERs.getD {es : List (AV × AV × Nat)} {es' : List MapEntry} (h : ERs φ es es') (j : Nat) {p : AV × AV × Nat} (e : es[j]? = some p) : ∃ m, es'[j]? = some m ∧ VR φ p.1 m.key ∧ VR φ p.2.1 m.val ∧ m.born = p.2.2 := by
  induction h generalizing j with
  | nil => simp at e
  | cons hk hv hb t ih =>
    cases j with
    | zero => simp at e; subst e; exact ⟨_, rfl, hk, hv, hb⟩
    | succ j => simp at e; simpa using ih j e
theorem ERs.set {es : List (AV × AV × Nat)} {es' : List MapEntry} (h : ERs φ es es') (j : Nat) {k v : AV} {b : Nat} {m : MapEntry} (hk : VR φ k m.key) (hv : VR φ v m.val) (hb : m.born = b) : ERs φ (es.set j (k, v, b)) (es'.set j m) := by
  induction h generalizing j with
  | nil => exact .nil
  | cons hk2 hv2 hb2 t ih =>
    cases j with
    | zero => exact .cons hk hv hb t
    | succ j => exact .cons hk2 hv2 hb2 (ih j)
theorem ERs.push {es : List (AV × AV × Nat)} {es' : List MapEntry} (h : ERs φ es es') {k v : AV} {b : Nat} {m : MapEntry} (hk : VR φ k m.key) (hv : VR φ v m.val) (hb : m.born = b) : ERs φ (es ++ [(k, v, b)]) (es' ++ [m]) := by
  induction h with
  | nil => exact .cons hk hv hb .nil
  | cons hk2 hv2 hb2 t ih => exact .cons hk2 hv2 hb2 ih
theorem findA_at {k : AV} : ∀ (es : List (AV × AV × Nat)) (i : Nat) {j : Nat} {v : AV}, findA k es i = some (some (j, v)) → ∃ k2 b, i ≤ j ∧ es[j - i]? = some (k2, v, b) ∧ keyEq k k2 = some true
  | [], _, _, _, e => by cases e
  | (k2, v2, b) :: es, i, j, v, e => by
    unfold findA at e
    split at e
    · rename_i he
      cases e
      exact ⟨k2, b, Nat.le_refl _, by simp, he⟩
    · obtain ⟨k3, b3, g1, g2, g3⟩ := findA_at es (i + 1) e
      refine ⟨k3, b3, by omega, ?_, g3⟩
      rw [show j - i = (j - (i + 1)) + 1 by omega, List.getElem?_cons_succ]
      exact g2
    · cases e
theorem setObj_run {r : Nat} {o1 : Obj} (o : Obj) (h : w.heap[r]? = some o1) (hc : ∀ c t fr, o1 ≠ .cells c t fr) : (setObj r o).run P w = .ok () (w.putObj r o) ∧ (w.putObj r o).heap.size = w.heap.size ∧ (∀ j, j ≠ r → (w.putObj r o).heap[j]? = w.heap[j]?) ∧ (w.putObj r o).heap[r]? = some o := by
  have hlt : r < w.heap.size := (Array.getElem?_eq_some_iff.1 h).1
  refine ⟨by cases o1 <;> first | exact absurd rfl (hc _ _ _) | simp [setObj, Sem.run, World.putObj, h], by simp [World.putObj], fun j hj => ?_, ?_⟩
  · simp only [World.putObj]
    rw [Array.getElem?_setIfInBounds_ne (fun e => hj e.symm)]
  · simp only [World.putObj]
    rw [Array.getElem?_setIfInBounds_self_of_lt hlt]
theorem mapUpdate_runs (hst : ∀ t, kOk t = true → P.stoodInHeld t = false) (h : HR φ ah w) {t : TypeId} {x i v : AV} {x' i' v' : Value} {ah' : AH} (hx : VR φ x x') (hi : VR φ i i') (hv : VR φ v v') (e : mapUpdateA P.underlying P.info? ah t x i v = some ah') : RunsU P φ ah w (Instr.mapUpdate t x' i' v') ah' := by
  unfold mapUpdateA at e
  split at e
  · rename_i kt el b hu
    cases hx with
    | @map _ c z hp =>
      rw [cnd_eq] at e
      split at e
      · rename_i hc
        split at e
        · rename_i es clock hb
          obtain ⟨o', h1, h2⟩ := h.obj _ _ _ _ hb hp
          cases h2 with
          | @map _ es' _ he =>
            have hck := key_check (P := P) hi hc false 9998 w
            unfold updA at e
            split at e
            · rename_i j v0 hf
              obtain ⟨k2, b2, _, g5, g6⟩ := findA_at es 0 hf
              rw [Nat.sub_zero] at g5
              unfold updE at e
              rw [g5] at e
              cases e
              obtain ⟨r', g1, g2⟩ := findKey_run hst hi hc he hf
              cases g1 with
              | some _ hv0 =>
                obtain ⟨m, m1, m2, m3, m4⟩ := he.getD j g5
                have hkey : i' = m.key := keyEq_true hi m2 g6
                have hmj : es'[j]? = some m := by rw [← Array.getElem?_toList]; exact m1
                have hst2 := key_stays (P := P) hi hc w
                obtain ⟨s1, s2, s3, s4⟩ := setObj_run (P := P) (w := w) (.map (es'.modify j fun e => { e with key := i', val := v' }) clock) h1 (fun _ _ _ he => by cases he)
                refine ⟨φ, _, ?_, Stp.turn h hb hp s2 s3 s4 (.map ?_)⟩
                · simp only [Instr.mapUpdate, Sem.run_bind, run_underlying hu w, Result.andThen_ok, getObj_map h1, hck, g2, hmj, Option.map_some, Option.getD_some, ← hkey, hst2, s1]
                · rw [Array.toList_modify]
                  have : es'.toList.modify j (fun e => { e with key := i', val := v' }) = es'.toList.set j { m with key := i', val := v' } := by
                    rw [List.modify_eq_set, m1]; rfl
                  rw [this]
                  exact he.set j hi hv m4
            · rename_i hf
              cases e
              obtain ⟨r', g1, g2⟩ := findKey_run hst hi hc he hf
              cases g1
              obtain ⟨s1, s2, s3, s4⟩ := setObj_run (P := P) (w := w) (.map (es'.push { key := i', val := v', born := clock }) (clock + 1)) h1 (fun _ _ _ he => by cases he)
              refine ⟨φ, _, ?_, Stp.turn h hb hp s2 s3 s4 (.map ?_)⟩
              · simp only [Instr.mapUpdate, Sem.run_bind, run_underlying hu w, Result.andThen_ok, getObj_map h1, hck, g2, s1]
              · rw [Array.toList_push]
                exact he.push hi hv rfl
            · cases e
        · cases e
      · cases e
  · cases e
end
end Go.Proofs.YtpmlofbpiajkbaaGreatDoor.M2
