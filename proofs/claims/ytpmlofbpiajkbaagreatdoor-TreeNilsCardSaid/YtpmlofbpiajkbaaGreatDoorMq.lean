/- A verified interpreter: operations that need but their frame, that read, that make a block. -/
import Derived.Test.YtpmlofbpiajkbaaGreatDoorMo
set_option linter.unusedVariables false
set_option linter.unusedSimpArgs false
namespace Go.Proofs.YtpmlofbpiajkbaaGreatDoor.M2
open Go
theorem oval_val {ah ah1 : AH} {x : Option AV} {v : AV} (e : oval ah x = some (.val v ah1)) : x = some v ∧ ah1 = ah := by
  obtain ⟨u, h1, h2⟩ := oval_some e
  cases h2
  exact ⟨h1, rfl⟩
theorem oval_of {ah : AH} {x : Option AV} {v : AV} (e : x = some v) : oval ah x = some (.val v ah) := by rw [e]; rfl
theorem on1_of {tm : T AV} {x : Operand} {k : AV → Option ORes} {v : AV} (e : ev tm x = some v) : on1 tm x k = k v := by unfold on1; rw [e]
theorem onL_of {tm : T AV} {x : List Operand} {k : List AV → Option ORes} {v : List AV} (e : evs tm x = some v) : onL tm x k = k v := by unfold onL; rw [e]
theorem onO_of {tm : T AV} {x : Option Operand} {k : Option AV → Option ORes} {v : Option AV} (e : evO tm x = some v) : onO tm x k = k v := by unfold onO; rw [e]
theorem onP_of {tm : T AV} {x : List (Nat × Operand)} {k : List (Nat × AV) → Option ORes} {v : List (Nat × AV)} (e : evParts tm x = some v) : onP tm x k = k v := by unfold onP; rw [e]
section
variable {C : Cfg}
theorem pure_any {tm : T AV} {ah ah1 : AH} {o : Oper} {v : AV} (hk : kindOf C o = .pure) (e : opA C.und C.inf tm ah o = some (.val v ah1)) (ah' : AH) : opA C.und C.inf tm ah' o = some (.val v ah') := by
  obtain ⟨dst, op, ty, pos, after, guard⟩ := o
  have e : opA2 C.und C.inf tm ah op = some (.val v ah1) := e
  show opA2 C.und C.inf tm ah' op = some (.val v ah')
  cases op with
  | move x => exact oval_of (oval_val e).1
  | assign x => exact oval_of (oval_val e).1
  | pick c x y =>
    obtain ⟨u, h1, e⟩ := on1_some e
    show on1 tm c (oPick2 tm ah' x y) = _
    rw [on1_of h1]
    unfold oPick2 at e ⊢
    split at e
    · exact oval_of (oval_val e).1
    · cases e
  | build t ps =>
    obtain ⟨l, h1, e⟩ := onP_some e
    show onP tm _ _ = _
    rw [onP_of h1]
    exact oval_of (oval_val e).1
  | nilCheck x =>
    obtain ⟨u, h1, e⟩ := on1_some e
    show on1 tm x (oNil2 ah') = _
    rw [on1_of h1]
    unfold oNil2 at e ⊢
    split at e
    · cases e; rfl
    · cases e
  | binOp op t x y yt =>
    obtain ⟨u, h1, e⟩ := on1_some e
    obtain ⟨u2, h2, e⟩ := on1_some e
    show on1 tm x (fun a => on1 tm y _) = _
    rw [on1_of h1, on1_of h2]
    exact oval_of (oval_val e).1
  | unOp op t x =>
    obtain ⟨u, h1, e⟩ := on1_some e
    show on1 tm x _ = _
    rw [on1_of h1]
    exact oval_of (oval_val e).1
  | convert s d x =>
    have hk : kindConv (C.und s) (C.und d) = .pure := hk
    obtain ⟨u, h1, e⟩ := on1_some e
    show on1 tm x _ = _
    rw [on1_of h1]
    obtain ⟨z, a2, h2, h3⟩ := oval2_some e
    cases h3
    show oval2 (convA C.und C.inf ah' s d u) = _
    unfold convA at h2 ⊢
    split at h2
    · rename_i hs hd
      cases h2
      first | rfl | (simp only [hs, hd]; rfl)
    · rename_i hs hd
      cases h2
      first | rfl | (simp only [hs, hd]; rfl)
    · rename_i hs hd
      rw [hs, hd] at hk; cases hk
    · rename_i hs hd
      rw [hs, hd] at hk; cases hk
    · rename_i hs hd _
      rw [hs, hd] at hk; cases hk
    · cases h2
  | sliceToArrayPointer t x =>
    obtain ⟨u, h1, e⟩ := on1_some e
    show on1 tm x (oArr2 ah' _) = _
    rw [on1_of h1]
    unfold oArr2 at e ⊢
    split at e
    · split at e
      · rename_i hu
        rw [cnd_eq] at e
        split at e
        · rename_i hb
          cases e
          simp only [hu, cnd_eq]
          rw [if_pos hb]
        · cases e
      · cases e
    · cases e
  | makeInterface t x =>
    obtain ⟨u, h1, e⟩ := on1_some e
    show on1 tm x _ = _
    rw [on1_of h1]
    show oIface2 ah' t (C.und t) u = _
    unfold oIface2 at e ⊢
    split at e
    · cases e
    · rename_i d hd hu
      cases e
      rfl
    · cases e
  | makeFunc fn first cap =>
    have e : oFunc tm ah fn first cap = some (.val v ah1) := e
    show oFunc tm ah' fn first cap = _
    unfold oFunc at e ⊢
    split at e
    · obtain ⟨l1, h1, e⟩ := onL_some e
      obtain ⟨l2, h2, e⟩ := onL_some e
      cases e
      show onL tm first.toList (fun a => onL tm cap.toList _) = _
      rw [onL_of h1, onL_of h2]
    · cases e
  | slice t x lo hi mx =>
    obtain ⟨u1, h1, e⟩ := on1_some e
    obtain ⟨u2, h2, e⟩ := onO_some e
    obtain ⟨u3, h3, e⟩ := onO_some e
    obtain ⟨u4, h4, e⟩ := onO_some e
    show on1 tm x (fun v => onO tm lo fun l => onO tm hi fun h => onO tm mx _) = _
    rw [on1_of h1, onO_of h2, onO_of h3, onO_of h4]
    exact oval_of (oval_val e).1
  | fieldAddr s x f =>
    obtain ⟨u, h1, e⟩ := on1_some e
    show on1 tm x _ = _
    rw [on1_of h1]
    exact oval_of (oval_val e).1
  | field s x f =>
    obtain ⟨u, h1, e⟩ := on1_some e
    show on1 tm x _ = _
    rw [on1_of h1]
    exact oval_of (oval_val e).1
  | indexAddr t x y =>
    obtain ⟨u, h1, e⟩ := on1_some e
    obtain ⟨u2, h2, e⟩ := on1_some e
    show on1 tm x (fun a => on1 tm y _) = _
    rw [on1_of h1, on1_of h2]
    exact oval_of (oval_val e).1
  | index t x y =>
    obtain ⟨u, h1, e⟩ := on1_some e
    obtain ⟨u2, h2, e⟩ := on1_some e
    show on1 tm x (fun a => on1 tm y _) = _
    rw [on1_of h1, on1_of h2]
    exact oval_of (oval_val e).1
  | typeAssert x xt t ok =>
    obtain ⟨u, h1, e⟩ := on1_some e
    show on1 tm x _ = _
    rw [on1_of h1]
    exact oval_of (oval_val e).1
  | extract x i =>
    obtain ⟨u, h1, e⟩ := on1_some e
    show on1 tm x (oExtract2 ah' i) = _
    rw [on1_of h1]
    unfold oExtract2 at e ⊢
    split at e
    · exact oval_of (oval_val e).1
    · cases e
  | call c =>
    obtain ⟨callee, args, ts⟩ := c
    have hk : kindCall callee = .pure := hk
    obtain ⟨l, h1, e⟩ := onL_some e
    show onL tm args.toList _ = _
    rw [onL_of h1]
    cases callee with
    | value f => cases hk
    | invoke _ _ => cases hk
    | builtin b =>
      cases b <;> first | (cases hk; done) | skip
      · exact oval_of (oval_val (x := maxA l) e).1
      · exact oval_of (oval_val (x := minA l) e).1
  | _ => cases hk
theorem read_same {tm : T AV} {ah ah1 : AH} {o : Oper} {v : AV} (hk : kindOf C o = .read) (e : opA C.und C.inf tm ah o = some (.val v ah1)) : ah1 = ah := by
  obtain ⟨dst, op, ty, pos, after, guard⟩ := o
  have e : opA2 C.und C.inf tm ah op = some (.val v ah1) := e
  cases op with
  | load t x =>
    obtain ⟨u, h1, e⟩ := on1_some e
    exact (oval_val e).2
  | lookup t x y ok =>
    obtain ⟨u, h1, e⟩ := on1_some e
    obtain ⟨u2, h2, e⟩ := on1_some e
    exact (oval_val e).2
  | convert s d x =>
    have hk : kindConv (C.und s) (C.und d) = .read := hk
    obtain ⟨u, h1, e⟩ := on1_some e
    obtain ⟨z, a2, h2, h3⟩ := oval2_some e
    cases h3
    unfold convA at h2
    split at h2
    · cases h2; rfl
    · cases h2; rfl
    · rename_i hs hd
      rw [hs, hd] at hk; cases hk
    · rename_i hs hd
      rw [hs, hd] at hk; cases hk
    · split at h2
      · split at h2
        · cases h2; rfl
        · cases h2; rfl
        · split at h2
          · split at h2
            · cases h2; rfl
            · cases h2
          · cases h2
        · cases h2
      · cases h2
    · cases h2
  | call c =>
    obtain ⟨callee, args, ts⟩ := c
    have hk : kindCall callee = .read := hk
    obtain ⟨l, h1, e⟩ := onL_some e
    cases callee with
    | value f => cases hk
    | invoke _ _ => cases hk
    | builtin b =>
      cases b <;> first | (cases hk; done) | skip
      have e : bLen C.und C.inf ah ts.toList l = some (.val v ah1) := e
      unfold bLen at e
      split at e
      · exact (oval_val e).2
      · cases e
  | _ => cases hk
/-- Such an operation makes one block, whatever it is called. -/
def FreshA (P : Program) (all : List Oper) (tm : T AV) (o : Oper) (mk : Nat → AV) (cs : List AV) : Prop :=
  ∀ (φ : Phi) (w : World) (n : Nat) (tm' : T AV) (a : Act), FR φ n tm' a.tmps → (∀ t, looks all o t → tm'.get t = tm.get t) → ∃ s : Sem Value, execOp a.eval o = (do pure (.value (← s))) ∧ Fresh P φ w s mk cs
theorem fresh_any (hund : C.und = C.P.underlying) (hinf : C.inf = C.P.info?) {all : List Oper} {tm : T AV} {ah ah1 : AH} {o : Oper} {v : AV} (hk : kindOf C o = .fresh) (e : opA C.und C.inf tm ah o = some (.val v ah1)) :
    ∃ mk cs, v = mk ah.next ∧ ah1 = ah.new (.cells cs) ∧ FreshA C.P all tm o mk cs := by
  obtain ⟨dst, op, ty, pos, after, guard⟩ := o
  have hev : ∀ {x : Operand} {tm' : T AV}, x ∈ op.operands → (∀ t, looks all ⟨dst, op, ty, pos, after, guard⟩ t → tm'.get t = tm.get t) → ev tm' x = ev tm x := fun hx h => ev_congr fun t ht => h t (.inl (ht ▸ hx))
  have e : opA2 C.und C.inf tm ah op = some (.val v ah1) := e
  have hk0 : ∀ {s d x}, op = .convert s d x → kindConv (C.und s) (C.und d) = .fresh := fun {s d x} h => by subst h; exact hk
  rw [hund, hinf] at e
  rw [hund] at hk0
  cases op with
  | alloc t =>
    have e : oNew ah (zeroA C.P.underlying C.P.info? t) = some (.val v ah1) := e
    unfold oNew at e
    split at e
    · rename_i z hz
      rw [cnd_eq] at e
      split at e
      · rename_i ho
        cases e
        exact ⟨fun b => .ptr b 0, z.cells, rfl, rfl, fun φ w n tm' a _ _ => ⟨_, rfl, alloc_fresh hz ho φ w⟩⟩
      · cases e
    · cases e
  | box t x =>
    have e : oNew ah (ev tm x) = some (.val v ah1) := e
    unfold oNew at e
    split at e
    · rename_i z hz
      rw [cnd_eq] at e
      split at e
      · rename_i ho
        cases e
        refine ⟨fun b => .ptr b 0, z.cells, rfl, rfl, fun φ w n tm' a hf hl => ⟨_, rfl, box_fresh (ev_VR hf ?_) ho w⟩⟩
        rw [hev (by simp [Op.operands]) hl]; exact hz
      · cases e
    · cases e
  | buildSlice t m ps =>
    obtain ⟨l, h1, e⟩ := onP_some e
    obtain ⟨u, ah', h2, h3⟩ := oval2_some e
    cases h3
    obtain ⟨mk, cs, rfl, rfl, _, k⟩ := buildSlice_fresh h2
    refine ⟨mk, cs, rfl, rfl, fun φ w n tm' a hf hl => ⟨_, rfl, k φ w _ (evParts_VR hf ?_).arr⟩⟩
    rw [evParts_congr fun p hp => hev (by simp only [Op.operands, List.mem_toArray, List.mem_map]; exact ⟨p, hp, rfl⟩) hl]
    exact h1
  | makeSlice t x y =>
    obtain ⟨u, h1, e⟩ := on1_some e
    obtain ⟨u2, h2, e⟩ := on1_some e
    obtain ⟨z, ah', h3, h4⟩ := oval2_some e
    cases h4
    obtain ⟨mk, cs, rfl, rfl, _, k⟩ := makeSlice_fresh h3
    refine ⟨mk, cs, rfl, rfl, fun φ w n tm' a hf hl => ⟨_, rfl, k φ w _ _ (ev_VR hf ?_) (ev_VR hf ?_)⟩⟩
    · rw [hev (by simp [Op.operands]) hl]; exact h1
    · rw [hev (by simp [Op.operands]) hl]; exact h2
  | convert s d x =>
    have hk := hk0 rfl
    obtain ⟨u, h1, e⟩ := on1_some e
    obtain ⟨z, a2, h2, h3⟩ := oval2_some e
    cases h3
    unfold convA at h2
    split at h2
    · rename_i hs hd
      exfalso; unfold kindConv at hk; rw [hd] at hk
      split at hk <;> first | (cases hk; done) | (rename_i h5; cases h5; done) | (rename_i h5 h6; cases h6; done)
    · rename_i hs hd
      exfalso; unfold kindConv at hk; rw [hd] at hk
      split at hk <;> first | (cases hk; done) | (rename_i h5; cases h5; done) | (rename_i h5 h6; cases h6; done)
    · rename_i el st hs hd
      split at h2
      · rename_i hu
        cases h2
        refine ⟨fun b => .slice b 0 st.length (.own 1), _, rfl, rfl, fun φ w n tm' a hf hl => ⟨_, rfl, ?_⟩⟩
        have hv := ev_VR (x := .str st) hf (o := x) (by rw [hev (by simp [Op.operands]) hl]; exact h1)
        generalize a.eval x = x' at hv
        cases hv with
        | str s => exact strBytes_fresh hs hd hu φ w s
      · cases h2
    · rename_i hs hd
      rw [hs, hd] at hk; cases hk
    · rename_i hs hd _
      rw [hs, hd] at hk; cases hk
    · cases h2
  | call c =>
    obtain ⟨callee, args, ts⟩ := c
    have hk : kindCall callee = .fresh := hk
    cases callee with
    | value f => cases hk
    | invoke _ _ => cases hk
    | builtin b => cases b <;> cases hk
  | _ => cases hk
theorem kind_nd {o : Oper} (hk : kindOf C o ≠ .act) (c : Call) : o.op ≠ .defer c := by
  intro h
  apply hk
  unfold kindOf
  rw [h]
end
end Go.Proofs.YtpmlofbpiajkbaaGreatDoor.M2
