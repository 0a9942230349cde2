/- A verified interpreter: sets of numbers, what regions' operations wait for, and that an operation looks but at its own temporaries. -/
import Derived.Test.YtpmlofbpiajkbaaGreatDoorMn
set_option linter.unusedVariables false
set_option linter.unusedSimpArgs false
namespace Go.Proofs.YtpmlofbpiajkbaaGreatDoor.M2
open Go
/-! ### Sets of numbers -/
theorem hasB_eq (m i : Nat) : hasB m i = m.testBit i := by
  rw [Nat.testBit_eq_decide_div_mod_eq, hasB]
  show Nat.beq ((m >>> i) % 2) 1 = _
  rw [Nat.shiftRight_eq_div_pow]
  by_cases h : m / 2 ^ i % 2 = 1
  · rw [h]; rfl
  · rw [decide_eq_false h]
    cases hb : Nat.beq (m / 2 ^ i % 2) 1 with
    | false => rfl
    | true => exact absurd (Nat.eq_of_beq_eq_true hb) h
theorem hasB_lor (a b i : Nat) : hasB (Nat.lor a b) i = (hasB a i || hasB b i) := by
  rw [hasB_eq, hasB_eq, hasB_eq]; exact Nat.testBit_or a b i
theorem hasB_bit (j i : Nat) : hasB (bitB j) i = decide (j = i) := by
  rw [hasB_eq]
  show (1 <<< j).testBit i = _
  rw [Nat.one_shiftLeft, Nat.testBit_two_pow]
theorem hasB_zero (i : Nat) : hasB 0 i = false := by rw [hasB_eq, Nat.zero_testBit]
theorem subB_iff (a b : Nat) : subB a b = true ↔ ∀ i, hasB a i = true → hasB b i = true := by
  constructor
  · intro h i hi
    have h : a &&& b = a := Nat.eq_of_beq_eq_true h
    rw [hasB_eq] at *
    rw [← h, Nat.testBit_and, Bool.and_eq_true] at hi
    exact hi.2
  · intro h
    have : a &&& b = a := by
      apply Nat.eq_of_testBit_eq
      intro i
      rw [Nat.testBit_and]
      cases ha : a.testBit i with
      | false => rfl
      | true =>
        have := h i (by rw [hasB_eq]; exact ha)
        rw [hasB_eq] at this
        rw [this]; rfl
    show Nat.beq (a &&& b) a = true
    rw [this]; exact Nat.beq_refl a
theorem preOf_iff : ∀ (l : List Edge) (j : Nat), hasB (preOf l) j = true ↔ ∃ e ∈ l, Region.binds .any e = true ∧ e.on = j
  | [], j => by simp [preOf, hasB_zero]
  | e :: r, j => by
    unfold preOf
    rw [cnd_eq]
    split
    · rename_i hb
      rw [hasB_lor, Bool.or_eq_true, hasB_bit, decide_eq_true_iff, preOf_iff r j]
      constructor
      · rintro (h | ⟨e2, h1, h2⟩)
        · exact ⟨e, by simp, hb, h⟩
        · exact ⟨e2, by simp [h1], h2⟩
      · rintro ⟨e2, h1, h2, h3⟩
        rcases List.mem_cons.1 h1 with rfl | h1
        · exact .inl h3
        · exact .inr ⟨e2, h1, h2, h3⟩
    · rename_i hb
      rw [preOf_iff r j]
      constructor
      · rintro ⟨e2, h1, h2⟩
        exact ⟨e2, by simp [h1], h2⟩
      · rintro ⟨e2, h1, h2, h3⟩
        rcases List.mem_cons.1 h1 with rfl | h1
        · exact absurd h2 hb
        · exact ⟨e2, h1, h2, h3⟩
theorem ancOf_spec (tab : T Nat) : ∀ (l : List Edge) (j : Nat), hasB (ancOf tab l) j = true → ∃ e ∈ l, Region.binds .any e = true ∧ (e.on = j ∨ ∃ m, tab.get e.on = some m ∧ hasB m j = true)
  | [], j => by simp [ancOf, hasB_zero]
  | e :: r, j => by
    unfold ancOf
    rw [cnd_eq]
    intro h
    split at h
    · rename_i hb
      rw [hasB_lor, hasB_lor, Bool.or_eq_true, Bool.or_eq_true, hasB_bit, decide_eq_true_iff] at h
      rcases h with (h | h) | h
      · exact ⟨e, by simp, hb, .inl h⟩
      · cases hm : tab.get e.on with
        | none => rw [hm] at h; rw [Option.getD_none, hasB_zero] at h; cases h
        | some m => rw [hm] at h; exact ⟨e, by simp, hb, .inr ⟨m, hm, h⟩⟩
      · obtain ⟨e2, h1, h2⟩ := ancOf_spec tab r j h
        exact ⟨e2, by simp [h1], h2⟩
    · obtain ⟨e2, h1, h2⟩ := ancOf_spec tab r j h
      exact ⟨e2, by simp [h1], h2⟩
theorem opmOf_spec : ∀ (l : List Operand) (t : Nat), Operand.tmp t ∈ l → hasB (opmOf l) t = true
  | [], t, h => by cases h
  | o :: r, t, h => by
    rcases List.mem_cons.1 h with h1 | h1
    · subst h1
      show hasB (Nat.lor (bitB t) (opmOf r)) t = true
      rw [hasB_lor, hasB_bit, decide_eq_true rfl]; rfl
    · have ih := opmOf_spec r t h1
      cases o with
      | tmp u =>
        show hasB (Nat.lor (bitB u) (opmOf r)) t = true
        rw [hasB_lor, ih, Bool.or_true]
      | _ => exact ih
/-- What is told of a region's operations. -/
structure Infos (ops : Array Oper) (infos : List OI) : Prop where
  at_ : ∀ x ∈ infos, ops[x.i]? = some x.o
  all : ∀ i, i < ops.size → ∃ x ∈ infos, x.i = i
  uniq : ∀ x ∈ infos, ∀ y ∈ infos, x.i = y.i → x = y
  pre : ∀ x ∈ infos, x.pre = preOf x.o.after.toList
  anc : ∀ x ∈ infos, ∀ j, hasB x.anc j = true → ∃ e ∈ x.o.after.toList, Region.binds .any e = true ∧ (e.on = j ∨ ∃ y ∈ infos, y.i = e.on ∧ hasB y.anc j = true)
  opm : ∀ x ∈ infos, x.opm = Nat.lor (opmOf x.o.op.operands.toList) (grdOf ops.toList x.o)
theorem infosF_get (all : List Oper) : ∀ (l : List Oper) (i : Nat) (tab : T Nat) (k : Nat),
    (∀ x, (infosF all l i tab)[k]? = some x → x.i = i + k ∧ l[k]? = some x.o ∧ x.pre = preOf x.o.after.toList ∧ x.opm = Nat.lor (opmOf x.o.op.operands.toList) (grdOf all x.o)) ∧ (k < l.length → ∃ x, (infosF all l i tab)[k]? = some x)
  | [], i, tab, k => by simp [infosF]
  | o :: r, i, tab, 0 => by
    simp only [infosF, List.getElem?_cons_zero, Option.some.injEq, List.length_cons]
    refine ⟨?_, fun _ => ⟨_, rfl⟩⟩
    rintro x rfl
    exact ⟨rfl, rfl, rfl, rfl⟩
  | o :: r, i, tab, k + 1 => by
    simp only [infosF, List.getElem?_cons_succ, List.length_cons]
    obtain ⟨h1, h2⟩ := infosF_get all r (i + 1) (tab.put i (some (ancOf tab o.after.toList))) k
    refine ⟨fun x hx => ?_, fun hk => h2 (by omega)⟩
    obtain ⟨a, b⟩ := h1 x hx
    exact ⟨by omega, b⟩
theorem infosF_anc (all : List Oper) (IA : List OI) : ∀ (l : List Oper) (i : Nat) (tab : T Nat), (∀ j m, tab.get j = some m → ∃ y ∈ IA, y.i = j ∧ y.anc = m) → (∀ x ∈ infosF all l i tab, x ∈ IA) →
    ∀ x ∈ infosF all l i tab, ∀ j, hasB x.anc j = true → ∃ e ∈ x.o.after.toList, Region.binds .any e = true ∧ (e.on = j ∨ ∃ y ∈ IA, y.i = e.on ∧ hasB y.anc j = true)
  | [], i, tab, _, _, x, hx, _, _ => by cases hx
  | o :: r, i, tab, ht, hin, x, hx, j, hj => by
    unfold infosF at hx hin
    rcases List.mem_cons.1 hx with rfl | hx
    · obtain ⟨e, h1, h2, h3⟩ := ancOf_spec tab _ j hj
      refine ⟨e, h1, h2, h3.imp id ?_⟩
      rintro ⟨m, h4, h5⟩
      obtain ⟨y, h6, h7, rfl⟩ := ht _ _ h4
      exact ⟨y, h6, h7, h5⟩
    · refine infosF_anc all IA r (i + 1) _ (fun j m h => ?_) (fun x hx => hin x (List.mem_cons_of_mem _ hx)) x hx j hj
      rw [T.get_put] at h
      split at h
      · rename_i hji
        cases h
        subst hji
        exact ⟨_, hin _ (List.mem_cons_self ..), rfl, rfl⟩
      · exact ht j m h
theorem infos_ok (ops : Array Oper) : Infos ops (infosF ops.toList ops.toList 0 .leaf) where
  at_ x hx := by
    obtain ⟨k, hk⟩ := List.getElem?_of_mem hx
    obtain ⟨h1, h2, _⟩ := (infosF_get ops.toList ops.toList 0 .leaf k).1 x hk
    rw [h1, Nat.zero_add, ← Array.getElem?_toList]; exact h2
  all i hi := by
    obtain ⟨x, hx⟩ := (infosF_get ops.toList ops.toList 0 .leaf i).2 (by rw [Array.length_toList]; exact hi)
    exact ⟨x, List.mem_of_getElem? hx, by rw [((infosF_get ops.toList ops.toList 0 .leaf i).1 x hx).1, Nat.zero_add]⟩
  uniq x hx y hy e := by
    obtain ⟨k, hk⟩ := List.getElem?_of_mem hx
    obtain ⟨j, hj⟩ := List.getElem?_of_mem hy
    have h1 := ((infosF_get ops.toList ops.toList 0 .leaf k).1 x hk).1
    have h2 := ((infosF_get ops.toList ops.toList 0 .leaf j).1 y hj).1
    have : k = j := by omega
    subst this
    rw [hk] at hj
    exact Option.some.inj hj
  pre x hx := by
    obtain ⟨k, hk⟩ := List.getElem?_of_mem hx
    exact ((infosF_get ops.toList ops.toList 0 .leaf k).1 x hk).2.2.1
  anc := infosF_anc ops.toList _ ops.toList 0 .leaf (fun j m h => by cases h) (fun x hx => hx)
  opm x hx := by
    obtain ⟨k, hk⟩ := List.getElem?_of_mem hx
    exact ((infosF_get ops.toList ops.toList 0 .leaf k).1 x hk).2.2.2

/-! ### An operation looks but at its own temporaries -/
/-- The temporaries that it looks at. -/
def looks (all : List Oper) (o : Oper) (t : Nat) : Prop :=
  Operand.tmp t ∈ o.op.operands ∨ ∃ j b o2, o.guard = some (j, b) ∧ all[j]? = some o2 ∧ o2.dst = some t
theorem looks_opm {ops : Array Oper} {infos : List OI} (hI : Infos ops infos) {x : OI} (hx : x ∈ infos) {t : Nat} (h : looks ops.toList x.o t) : hasB x.opm t = true := by
  rw [hI.opm x hx, hasB_lor, Bool.or_eq_true]
  rcases h with h | ⟨j, b, o2, h1, h2, h3⟩
  · exact .inl (opmOf_spec _ _ (by rw [Array.mem_toList_iff]; exact h))
  · refine .inr ?_
    unfold grdOf
    rw [h1]
    simp only []
    rw [h2]
    simp only [grdT, h3]
    rw [hasB_bit, decide_eq_true rfl]
theorem ev_congr {tm tm' : T AV} {x : Operand} (h : ∀ t, x = .tmp t → tm'.get t = tm.get t) : ev tm' x = ev tm x := by
  cases x with
  | tmp t => exact h t rfl
  | _ => rfl
theorem evs_congr {tm tm' : T AV} : ∀ {l : List Operand}, (∀ x ∈ l, ev tm' x = ev tm x) → evs tm' l = evs tm l
  | [], _ => rfl
  | o :: r, h => by
    unfold evs
    rw [h o (by simp), evs_congr (l := r) fun x hx => h x (by simp [hx])]
theorem evParts_congr {tm tm' : T AV} : ∀ {l : List (Nat × Operand)}, (∀ p ∈ l, ev tm' p.2 = ev tm p.2) → evParts tm' l = evParts tm l
  | [], _ => rfl
  | (i, o) :: r, h => by
    unfold evParts
    rw [h (i, o) (by simp), evParts_congr (l := r) fun x hx => h x (by simp [hx])]
theorem evO_congr {tm tm' : T AV} {x : Option Operand} (h : ∀ y, x = some y → ev tm' y = ev tm y) : evO tm' x = evO tm x := by
  cases x with
  | none => rfl
  | some y => simp only [evO]; rw [h y rfl]
theorem opA2_congr {und : Nat → Option TypeDesc} {inf : Nat → Option TypeInfo} {tm tm' : T AV} {ah : AH} {op : Op} (h : ∀ t, Operand.tmp t ∈ op.operands → tm'.get t = tm.get t) : opA2 und inf tm' ah op = opA2 und inf tm ah op := by
  have hx : ∀ x ∈ op.operands, ev tm' x = ev tm x := fun x hx => ev_congr fun t ht => h t (ht ▸ hx)
  clear h
  cases op with
  | move x => show oval ah (ev tm' x) = oval ah (ev tm x); rw [hx x (by simp [Op.operands])]
  | assign x => show oval ah (ev tm' x) = oval ah (ev tm x); rw [hx x (by simp [Op.operands])]
  | pick c x y =>
    have e1 := hx c (by simp [Op.operands]); have e2 := hx x (by simp [Op.operands]); have e3 := hx y (by simp [Op.operands])
    show oPick tm' ah c x y = oPick tm ah c x y
    unfold oPick on1
    rw [e1]
    split
    · rename_i v _
      cases v with
      | bool t => cases t <;> (unfold oPick2 oMove; simp only [cnd_eq]; simp [e2, e3])
      | _ => rfl
    · rfl
  | alloc t => rfl
  | box t x => show oNew ah (ev tm' x) = oNew ah (ev tm x); rw [hx x (by simp [Op.operands])]
  | build t ps =>
    show onP tm' ps.toList _ = onP tm ps.toList _
    unfold onP
    rw [evParts_congr fun p hp => hx p.2 (by simp only [Op.operands, List.mem_toArray, List.mem_map]; exact ⟨p, hp, rfl⟩)]
  | buildSlice t m ps =>
    show onP tm' ps.toList _ = onP tm ps.toList _
    unfold onP
    rw [evParts_congr fun p hp => hx p.2 (by simp only [Op.operands, List.mem_toArray, List.mem_map]; exact ⟨p, hp, rfl⟩)]
  | load t x => show on1 tm' x _ = on1 tm x _; unfold on1; rw [hx x (by simp [Op.operands])]
  | store t x y =>
    show on1 tm' x (fun a => on1 tm' y _) = on1 tm x (fun a => on1 tm y _)
    unfold on1; rw [hx x (by simp [Op.operands]), hx y (by simp [Op.operands])]
  | nilCheck x => show on1 tm' x _ = on1 tm x _; unfold on1; rw [hx x (by simp [Op.operands])]
  | binOp op t x y yt =>
    show on1 tm' x (fun a => on1 tm' y _) = on1 tm x (fun a => on1 tm y _)
    unfold on1; rw [hx x (by simp [Op.operands]), hx y (by simp [Op.operands])]
  | unOp op t x => show on1 tm' x _ = on1 tm x _; unfold on1; rw [hx x (by simp [Op.operands])]
  | convert s d x => show on1 tm' x _ = on1 tm x _; unfold on1; rw [hx x (by simp [Op.operands])]
  | sliceToArrayPointer t x => show on1 tm' x _ = on1 tm x _; unfold on1; rw [hx x (by simp [Op.operands])]
  | makeInterface t x => show on1 tm' x _ = on1 tm x _; unfold on1; rw [hx x (by simp [Op.operands])]
  | makeFunc fn first cap =>
    show oFunc tm' ah fn first cap = oFunc tm ah fn first cap
    unfold oFunc
    cases fn with
    | func f =>
      show onL tm' first.toList (fun a => onL tm' cap.toList _) = onL tm first.toList (fun a => onL tm cap.toList _)
      unfold onL
      rw [evs_congr fun x hh => hx x (by simp only [Op.operands, Array.mem_append]; exact .inl (by rwa [← Array.mem_toList_iff])), evs_congr fun x hh => hx x (by simp only [Op.operands, Array.mem_append]; exact .inr (by rwa [← Array.mem_toList_iff]))]
    | _ => rfl
  | makeMap t x => rfl
  | makeSlice t x y =>
    show on1 tm' x (fun a => on1 tm' y _) = on1 tm x (fun a => on1 tm y _)
    unfold on1; rw [hx x (by simp [Op.operands]), hx y (by simp [Op.operands])]
  | slice t x lo hi mx =>
    show on1 tm' x (fun v => onO tm' lo fun l => onO tm' hi fun h => onO tm' mx _) = on1 tm x (fun v => onO tm lo fun l => onO tm hi fun h => onO tm mx _)
    unfold on1 onO
    rw [hx x (by simp [Op.operands]), evO_congr (x := lo) fun y hy => hx y (by subst hy; simp [Op.operands]), evO_congr (x := hi) fun y hy => hx y (by subst hy; simp [Op.operands]), evO_congr (x := mx) fun y hy => hx y (by subst hy; simp [Op.operands])]
  | fieldAddr s x f => show on1 tm' x _ = on1 tm x _; unfold on1; rw [hx x (by simp [Op.operands])]
  | field s x f => show on1 tm' x _ = on1 tm x _; unfold on1; rw [hx x (by simp [Op.operands])]
  | indexAddr t x y =>
    show on1 tm' x (fun a => on1 tm' y _) = on1 tm x (fun a => on1 tm y _)
    unfold on1; rw [hx x (by simp [Op.operands]), hx y (by simp [Op.operands])]
  | index t x y =>
    show on1 tm' x (fun a => on1 tm' y _) = on1 tm x (fun a => on1 tm y _)
    unfold on1; rw [hx x (by simp [Op.operands]), hx y (by simp [Op.operands])]
  | lookup t x y ok =>
    show on1 tm' x (fun a => on1 tm' y _) = on1 tm x (fun a => on1 tm y _)
    unfold on1; rw [hx x (by simp [Op.operands]), hx y (by simp [Op.operands])]
  | mapUpdate t m k v =>
    show on1 tm' m (fun a => on1 tm' k fun b => on1 tm' v _) = on1 tm m (fun a => on1 tm k fun b => on1 tm v _)
    unfold on1; rw [hx m (by simp [Op.operands]), hx k (by simp [Op.operands]), hx v (by simp [Op.operands])]
  | insert t m k v =>
    show on1 tm' m (fun a => on1 tm' k fun b => on1 tm' v _) = on1 tm m (fun a => on1 tm k fun b => on1 tm v _)
    unfold on1; rw [hx m (by simp [Op.operands]), hx k (by simp [Op.operands]), hx v (by simp [Op.operands])]
  | range t x => show on1 tm' x _ = on1 tm x _; unfold on1; rw [hx x (by simp [Op.operands])]
  | next it s => show on1 tm' it _ = on1 tm it _; unfold on1; rw [hx it (by simp [Op.operands])]
  | entry it => show on1 tm' it _ = on1 tm it _; unfold on1; rw [hx it (by simp [Op.operands])]
  | typeAssert x xt t ok => show on1 tm' x _ = on1 tm x _; unfold on1; rw [hx x (by simp [Op.operands])]
  | extract x i => show on1 tm' x _ = on1 tm x _; unfold on1; rw [hx x (by simp [Op.operands])]
  | call c =>
    obtain ⟨callee, args, ts⟩ := c
    have h1 : ∀ x ∈ args.toList, ev tm' x = ev tm x := fun x hh => hx x (by
      rw [Array.mem_toList_iff] at hh
      cases callee <;> simp [Op.operands, Call.operands, hh])
    show onL tm' args.toList _ = onL tm args.toList _
    unfold onL
    rw [evs_congr h1]
    cases callee with
    | value f => simp only [cGo]; rw [hx f (by simp [Op.operands, Call.operands])]
    | _ => rfl
  | defer c =>
    obtain ⟨callee, args, ts⟩ := c
    have h1 : ∀ x ∈ args.toList, ev tm' x = ev tm x := fun x hh => hx x (by
      rw [Array.mem_toList_iff] at hh
      cases callee <;> simp [Op.operands, Call.operands, hh])
    cases callee with
    | value f =>
      show onL tm' args.toList (fun l => on1 tm' f _) = onL tm args.toList (fun l => on1 tm f _)
      unfold onL on1
      rw [evs_congr h1, hx f (by simp [Op.operands, Call.operands])]
    | _ => rfl
  | _ => rfl
theorem opA_congr {und : Nat → Option TypeDesc} {inf : Nat → Option TypeInfo} {all : List Oper} {tm tm' : T AV} {ah : AH} {o : Oper} (h : ∀ t, looks all o t → tm'.get t = tm.get t) : opA und inf tm' ah o = opA und inf tm ah o :=
  opA2_congr fun t ht => h t (.inl ht)
theorem wantA_congr {all : List Oper} {tm tm' : T AV} {o : Oper} (h : ∀ t, looks all o t → tm'.get t = tm.get t) : wantA all tm' o = wantA all tm o := by
  unfold wantA
  split
  · rfl
  · rename_i j b hg
    unfold wantT
    split
    · rename_i o2 ho2
      split
      · rename_i t ht
        rw [h t (.inr ⟨j, b, o2, hg, ho2, ht⟩)]
      · rfl
    · rfl
theorem restr_ex (tm : T AV) : ∀ l : List Nat, ∃ tm' : T AV, ∀ t, tm'.get t = if t ∈ l then tm.get t else none
  | [] => ⟨.leaf, fun t => by simp [T.get]⟩
  | u :: l => by
    obtain ⟨tm', h⟩ := restr_ex tm l
    refine ⟨tm'.put u (tm.get u), fun t => ?_⟩
    rw [T.get_put]
    by_cases hu : t = u
    · subst hu; simp
    · rw [if_neg hu, h t]; simp [hu]
/-- A table of what an operation looks at alone. -/
theorem restr_looks (tm : T AV) (all : List Oper) (o : Oper) : ∃ tm' : T AV, (∀ t, looks all o t → tm'.get t = tm.get t) ∧ ∀ t v, tm'.get t = some v → looks all o t ∧ tm.get t = some v := by
  obtain ⟨l, hl⟩ : ∃ l : List Nat, ∀ t, t ∈ l ↔ looks all o t := by
    refine ⟨(o.op.operands.toList.filterMap fun | .tmp t => some t | _ => none) ++ (match o.guard with | some (j, _) => (match all[j]? with | some o2 => o2.dst.toList | none => []) | none => []), fun t => ?_⟩
    rw [List.mem_append, List.mem_filterMap]
    unfold looks
    constructor
    · rintro (⟨x, h1, h2⟩ | h)
      · cases x <;> simp at h2
        subst h2
        exact .inl (by rwa [← Array.mem_toList_iff])
      · refine .inr ?_
        split at h
        · rename_i j b hg
          split at h
          · rename_i o2 ho2
            exact ⟨j, b, o2, hg, ho2, by simpa using h⟩
          · cases h
        · cases h
    · rintro (h | ⟨j, b, o2, h1, h2, h3⟩)
      · exact .inl ⟨.tmp t, by rwa [Array.mem_toList_iff], rfl⟩
      · refine .inr ?_
        rw [h1]
        simp only []
        rw [h2]
        simp [h3]
  obtain ⟨tm', h⟩ := restr_ex tm l
  refine ⟨tm', fun t ht => by rw [h, if_pos ((hl t).2 ht)], fun t v e => ?_⟩
  rw [h] at e
  split at e
  · rename_i hm; exact ⟨(hl t).1 hm, e⟩
  · cases e
end Go.Proofs.YtpmlofbpiajkbaaGreatDoor.M2
