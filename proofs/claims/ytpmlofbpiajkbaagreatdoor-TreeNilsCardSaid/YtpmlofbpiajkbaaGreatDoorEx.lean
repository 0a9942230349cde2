/- Parts that the interpreter does not run: a search for a byte, and a deferred call that finds no panic. -/
import Derived.Test.YtpmlofbpiajkbaaGreatDoorSo
import Derived.RecoverIn
import Derived.Laws.StandIn
namespace Go.Proofs.YtpmlofbpiajkbaaGreatDoor.M2
open Go
set_option linter.unusedVariables false
set_option linter.unusedSimpArgs false
noncomputable section
def idxN (c : Nat) : List Nat → Nat → Option Nat
  | [], _ => none
  | x :: l, i => cnd (Nat.beq x c) (some i) (idxN c l (i + 1))
def idxR : Option Nat → Int
  | some i => i
  | none => -1
def idxG (args : List AV) (ah : AH) : Option (AV × AH) :=
  match args with
  | [.str s, .int .u8 (.ofNat c)] => cnd (Nat.blt c 256) (some (.int .i64 (idxR (idxN c s 0)), ah)) none
  | _ => none
theorem idxN_find (s : ByteArray) (c : Nat) (hc : c < 256) : ∀ (l : List UInt8) (k : Nat), s.data.toList.drop k = l → (List.range' k l.length).find? (fun i => s[i]! == c.toUInt8) = idxN c (l.map (·.toNat)) k
  | [], k, _ => rfl
  | x :: l, k, h => by
    have hk : s.data.toList[k]? = some x := by
      have := congrArg (fun l => l[0]?) h
      simpa using this
    have hk2 : s.data.toList.drop (k + 1) = l := by
      have := congrArg List.tail h
      simpa [List.tail_drop] using this
    have hlt : k < s.size := by
      rw [Array.getElem?_toList] at hk
      exact (Array.getElem?_eq_some_iff.1 hk).1
    have hx : s[k]! = x := by
      rw [getElem!_pos s k hlt]
      rw [Array.getElem?_toList] at hk
      exact (Array.getElem?_eq_some_iff.1 hk).2
    rw [List.length_cons, List.range'_succ, List.find?_cons, List.map_cons]
    unfold idxN
    rw [cnd_eq, hx]
    have hcc : c.toUInt8.toNat = c := by
      rw [Nat.toUInt8_eq, UInt8.toNat_ofNat']
      omega
    by_cases hxc : x.toNat = c
    · have : (x == c.toUInt8) = true := by
        rw [beq_iff_eq]
        exact UInt8.toNat_inj.1 (by rw [hxc, hcc])
      rw [this, if_pos (by rw [hxc]; exact Nat.beq_refl c)]
    · have : (x == c.toUInt8) = false := by
        rw [beq_eq_false_iff_ne]
        intro e
        exact hxc (by rw [e, hcc])
      rw [this, if_neg (fun hb => hxc (Nat.eq_of_beq_eq_true hb))]
      exact idxN_find s c hc l (k + 1) hk2
theorem idx_ok (B : Phi) {args : List AV} {ah ah' : AH} {v : AV} (e : idxG args ah = some (v, ah')) : CallOk Tryz.prog B 319 args ah v ah' := by
  intro φ w args' _ h hv
  unfold idxG at e
  split at e
  · rename_i s c
    rw [cnd_eq] at e
    split at e
    · rename_i hc
      have hc : c < 256 := by simpa [Nat.blt_eq] using hc
      cases e
      obtain ⟨args'⟩ := args'
      have hv : VRs φ _ args' := hv
      cases hv with
      | cons q1 t => cases t with
        | cons q2 t =>
          cases t
          cases q2
          cases q1 with
          | str s =>
            refine .inl ⟨.int .i64 (idxR (idxN c (s.data.toList.map (·.toNat)) 0)), w, ?_, φ, Stp.refl h, .int _ _⟩
            rw [run_callFunc_indexByte Tryz.func319 (by kernel_rfl) rfl (by kernel_rfl) (by kernel_rfl)]
            have hrun := run_indexByte_string (P := Tryz.prog) s (Int.ofNat c) w
            rw [hrun]
            have h1 := idxN_find s c hc s.data.toList 0 rfl
            have h2 : (List.range s.size).find? (fun i => s[i]! == c.toUInt8) = idxN c (s.data.toList.map (·.toNat)) 0 := by
              rw [← h1, List.range_eq_range']; rfl
            have h3 : firstIdx s (Int.ofNat c).toNat.toUInt8 = idxR (idxN c (s.data.toList.map (·.toNat)) 0) := by
              show (match (List.range s.size).find? (fun i => s[i]! == c.toUInt8) with | some i => (i : Int) | none => -1) = _
              rw [h2]
              cases idxN c (s.data.toList.map (·.toNat)) 0 <;> rfl
            rw [h3]
            rfl
    · cases e
  · cases e
theorem put_eval (a : Act) {d : Nat} (hd : d < a.tmps.size) (v : Value) : (a.put (some d) v).eval (.tmp d) = v := by
  show (a.tmps.setIfInBounds d v).getD d undef = v
  rw [Array.getD_eq_getD_getElem?, Array.getElem?_setIfInBounds_self_of_lt hd]; rfl
theorem opsS_one {P : Program} {ops : Array Oper} {Q : Exit → Act → List Frame → World → Prop} {i : Nat} {rest : List Nat} {a : Act} {cs : List Frame} {w : World} {o : Oper} {v : Value} (ho : ops[i]? = some o) (hw : o.guard = none) (hrun : (execOp a.eval o).run P w = .ok (.value v) w)
    (h : wpOpsSIn Fence.wide 0 P ops Q rest (a.put o.dst v) cs w) : wpOpsSIn Fence.wide 0 P ops Q (i :: rest) a cs w := by
  unfold wpOpsSIn
  rw [ho]
  refine ⟨fun _ _ => trivial, ?_⟩
  have : Region.wanted o (yielded ops a.tmps) = true := by unfold Region.wanted; rw [hw]
  rw [if_pos this, hrun]
  exact h
theorem opsS_rec {P : Program} {ops : Array Oper} {Q : Exit → Act → List Frame → World → Prop} {i : Nat} {rest : List Nat} {a : Act} {cs : List Frame} {w : World} {o : Oper} (ho : ops[i]? = some o) (hw : o.guard = none) (hrun : (execOp a.eval o).run P w = .ok .recover w) (hr : recoverD cs = none)
    (h : wpOpsSIn Fence.wide 0 P ops Q rest (a.put o.dst .nilIface) cs w) : wpOpsSIn Fence.wide 0 P ops Q (i :: rest) a cs w := by
  unfold wpOpsSIn
  rw [ho]
  refine ⟨fun _ _ => trivial, ?_⟩
  have : Region.wanted o (yielded ops a.tmps) = true := by unfold Region.wanted; rw [hw]
  rw [if_pos this, hrun]
  simp only [hr]
  exact h
theorem noop_ok (f : Nat) (hf : Nat.beq f 216 = true) (args' cap' : Array Value) (w : World) : (invoke (.fn (.func f) cap') args').run Tryz.prog w = .ok (.enter f (args' ++ cap')) w ∧
    CallsDIn Fence.wide 0 Tryz.prog f (args' ++ cap') .returning w fun e u w' => match e with
      | .returned _ => settle u = .returning ∧ w' = w
      | _ => False := by
  have hf := Nat.eq_of_beq_eq_true hf
  subst hf
  refine ⟨Tryz.call216 _ w, callsDIn_of_wpSIn Tryz.func216 rfl trivial fun c0 cs hm => ?_⟩
  have hrec : recoverD (c0 :: cs) = none := by simp [recoverD, hm]
  generalize hA : ({ tmps := (args' ++ cap') ++ Array.replicate (Tryz.f216.ntmps - (args' ++ cap').size) undef, defers := [] } : Act) = A
  have hs : 14 ≤ A.tmps.size := by
    rw [← hA]
    show 14 ≤ ((args' ++ cap') ++ Array.replicate (14 - (args' ++ cap').size) undef).size
    rw [Array.size_append, Array.size_replicate]
    omega
  have hd : A.defers = [] := by rw [← hA]
  clear hA
  have s1 : ∀ (d : Option Nat) (v : Value) (a : Act), 14 ≤ a.tmps.size → 14 ≤ (a.put d v).tmps.size := fun d v a h => by
    cases d with
    | none => exact h
    | some d => show 14 ≤ (a.tmps.setIfInBounds d v).size; rw [Array.size_setIfInBounds]; exact h
  have d1 : ∀ (d : Option Nat) (v : Value) (a : Act), a.defers = [] → (a.put d v).defers = [] := fun d v a h => by
    cases d <;> exact h
  have hq := run_equal_nil_nil (P := Tryz.prog) w 20 (by rw [Tryz.underlying20]; simp [Program.methodsAt, Tryz.underlying20])
  refine wpSIn_seq (wpSIn_region ?_)
  change wpOpsSIn _ _ _ _ _ [0, 1] _ _ _
  refine opsS_rec rfl rfl rfl hrec ?_
  refine opsS_one (v := .nilIface) rfl rfl (by show Result.ok (Next.value ((A.put (some 2) .nilIface).eval (.tmp 2))) w = _; rw [put_eval A (by omega)]) ?_
  have hs1 := s1 (some 1) .nilIface _ (s1 (some 2) .nilIface A hs)
  have hd1 := d1 (some 1) .nilIface _ (d1 (some 2) .nilIface A hd)
  have he1 := put_eval (A.put (some 2) .nilIface) (d := 1) (by have := s1 (some 2) .nilIface A hs; omega) .nilIface
  show (Code.seq _ _).wpSIn _ _ _ _ ((A.put (some 2) .nilIface).put (some 1) .nilIface) _ _
  generalize (A.put (some 2) .nilIface).put (some 1) .nilIface = B at hs1 hd1 he1 ⊢
  refine wpSIn_seq (wpSIn_region ?_)
  change wpOpsSIn _ _ _ _ _ [0, 1] _ _ _
  refine opsS_one (v := .nilIface) rfl rfl (by show Result.ok (Next.value (B.eval (.tmp 1))) w = _; rw [he1]) ?_
  have he3 := put_eval B (d := 3) (by omega) .nilIface
  have hs3 := s1 (some 3) .nilIface _ hs1
  have hd3 := d1 (some 3) .nilIface _ hd1
  refine opsS_one (v := .bool false) rfl rfl ?_ ?_
  · show ((do pure (Next.value (← (do eqGuard .neq 20 (.tmp 3) (.const .nilIface) ((B.put (some 3) .nilIface).eval (.tmp 3)) .nilIface; binOp .neq 20 ((B.put (some 3) .nilIface).eval (.tmp 3)) .nilIface : Sem Value))) : Sem Next)).run _ w = _
    rw [he3]
    have hg : (eqGuard .neq 20 (.tmp 3) (.const .nilIface) .nilIface .nilIface).run Tryz.prog w = .ok () w := rfl
    simp only [Sem.run_bind, hg, Result.andThen_ok, binOp, hq, Sem.run_pure]
    rfl
  have he4 := put_eval (B.put (some 3) .nilIface) (d := 4) (by omega) (.bool false)
  have hd4 := d1 (some 4) (.bool false) _ hd3
  refine wpSIn_cond he4 ?_
  rw [if_neg (by decide)]
  refine wpSIn_of_wpIn rfl (wpIn_skip ⟨hd4, .returning, ?_, ?_⟩)
  · rw [← hm]
  · refine ⟨.tuple #[], ?_, rfl, rfl⟩
    unfold results
    rw [show Tryz.f216.results = #[] from rfl]
    simp
end
end Go.Proofs.YtpmlofbpiajkbaaGreatDoor.M2
