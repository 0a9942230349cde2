/- A verified interpreter: what it says of iterators is so, and of every operation. -/
import Derived.Test.YtpmlofbpiajkbaaGreatDoorMl
import Derived.Laws.RangeString
set_option linter.unusedVariables false
set_option linter.unusedSimpArgs false
namespace Go.Proofs.YtpmlofbpiajkbaaGreatDoor.M2
open Go
section
variable {P : Program} {φ : Phi} {ah : AH} {w : World}
theorem getObj_other {r : Nat} {o : Obj} (h : w.heap[r]? = some o) (hc : ∀ c t fr, o ≠ .cells c t fr) : (getObj r).run P w = .ok o w := by
  cases o <;> first | exact absurd rfl (hc _ _ _) | simp [getObj, Sem.run, h]
theorem next_runs (h : HR φ ah w) {it y : AV} {it' : Value} {isS : Bool} {ty : TypeId} {ah' : AH} (hx : VR φ it it') (e : nextA ah it isS = some (y, ah')) : Runs P φ ah w (Instr.next it' isS ty) y ah' := by
  unfold nextA at e
  split at e
  · rename_i b
    cases hx with
    | @ptr _ c z _ hp =>
      split at e
      · rename_i s pos hb
        obtain ⟨o', h1, h2⟩ := h.obj _ _ _ _ hb hp
        cases h2 with
        | strIter s =>
          have hg : (getObj c).run P w = .ok (.stringIter s pos) w := getObj_other h1 (fun _ _ _ he => by cases he)
          have hsl : (s.data.toList.map (·.toNat)).length = s.size := by rw [List.length_map, Array.length_toList]; rfl
          split at e
          · rename_i hn
            cases e
            have hlt : ¬ pos < s.size := by
              rw [List.getElem?_eq_none_iff, hsl] at hn
              omega
            refine Runs.still h (v' := .tuple #[.bool false]) ?_ (.tup (a := #[.bool false]) (.cons (.bool false) .nil))
            simp only [Instr.next, Sem.run_bind, hg, Result.andThen_ok, if_neg hlt, Sem.run_pure]
          · rename_i c0 hc0
            rw [cnd_eq] at e
            split at e
            · rename_i hb128
              have hb128 : c0 < 128 := by simpa [Nat.blt_eq] using hb128
              cases e
              rw [List.getElem?_map] at hc0
              obtain ⟨u, hu8, rfl⟩ := Option.map_eq_some_iff.1 hc0
              rw [Array.getElem?_toList] at hu8
              obtain ⟨hlt, he⟩ := Array.getElem?_eq_some_iff.1 hu8
              have hlt : pos < s.size := hlt
              have hu : s[pos]'hlt = u := he
              have hdec := decode_ascii s pos hlt (by rw [hu]; exact hb128)
              rw [hu] at hdec
              obtain ⟨s1, s2, s3, s4⟩ := setObj_run (P := P) (w := w) (.stringIter s (pos + 1)) h1 (fun _ _ _ he => by cases he)
              refine ⟨φ, .tuple #[.bool true, goInt pos, .int .i32 u.toNat], _, ?_, Stp.turn h hb hp s2 s3 s4 (.strIter s (pos + 1)), .tup (a := #[.bool true, goInt pos, .int .i32 u.toNat]) (.cons (.bool true) (.cons (.int _ _) (.cons (.int _ _) .nil)))⟩
              simp only [Instr.next, Sem.run_bind, hg, Result.andThen_ok, if_pos hlt, hdec, s1, Sem.run_pure]
            · cases e
      · rename_i m since seen last hb
        obtain ⟨o', h1, h2⟩ := h.obj _ _ _ _ hb hp
        cases h2 with
        | @mapIter _ cm zm _ seen _ hm =>
          have hg : (getObj c).run P w = .ok (.mapIter (some cm) since seen last) w := getObj_other h1 (fun _ _ _ he => by cases he)
          split at e
          · rename_i k v bo clock hmb
            obtain ⟨om, g1, g2⟩ := h.obj _ _ _ _ hmb hm
            cases g2 with
            | @map _ es' _ he =>
              have hg2 : (getObj cm).run P w = .ok (.map es' clock) w := getObj_map g1
              obtain ⟨es'⟩ := es'
              cases he with
              | @cons _ _ _ en _ r hk hv hbo ht =>
                cases ht
                rw [cnd_eq] at e
                split at e
                · rename_i hbs
                  rw [decide_eq_true_iff] at hbs
                  rw [cnd_eq] at e
                  split at e
                  · rename_i hse
                    cases e
                    have hse : seen = #[] := by
                      have : seen.toList = [] := List.isEmpty_iff.1 hse
                      exact Array.toList_inj.1 this
                    subst hse
                    obtain ⟨s1, s2, s3, s4⟩ := setObj_run (P := P) (w := w) (.mapIter (some cm) since #[en.born] clock) h1 (fun _ _ _ he => by cases he)
                    refine ⟨φ, .tuple #[.bool true, en.key, en.val], _, ?_, Stp.turn h hb hp s2 s3 s4 (by have := OR.mapIter (φ := φ) (z := z) since #[en.born] clock hm; rw [hbo] at this; rw [hbo]; exact this), .tup (a := #[.bool true, en.key, en.val]) (.cons (.bool true) (.cons hk (.cons hv .nil)))⟩
                    have hlt : en.born < since := by rw [hbo]; exact hbs
                    have hch : (Question.mapNext 1).forced = true := rfl
                    simp [Instr.next, hg, hg2, Result.andThen_ok, hlt, Nat.not_le.2 hlt, hch, s1]
                  · rw [cnd_eq] at e
                    split at e
                    · rename_i hse hc2
                      cases e
                      rw [Bool.and_eq_true, decide_eq_true_iff] at hc2
                      obtain ⟨hc2, hl⟩ := hc2
                      have hmem : seen.contains en.born = true := by
                        rw [hbo]
                        simpa using hc2
                      have hch : (Question.mapNext 1).forced = true := rfl
                      refine Runs.still h (v' := .tuple #[.bool false]) ?_ (.tup (a := #[.bool false]) (.cons (.bool false) .nil))
                      have hlt : ¬ last ≤ en.born := by rw [hbo]; omega
                      simp [Instr.next, hg, hg2, Result.andThen_ok, hlt, hch]
                      have hm2 : en.born ∈ seen := by simpa using hmem
                      simp [hm2, hch]
                    · cases e
                · cases e
          · rename_i clock hmb
            obtain ⟨om, g1, g2⟩ := h.obj _ _ _ _ hmb hm
            cases g2 with
            | @map _ es' _ he =>
              have hg2 : (getObj cm).run P w = .ok (.map es' clock) w := getObj_map g1
              obtain ⟨es'⟩ := es'
              cases he
              rw [cnd_eq] at e
              split at e
              · rename_i hse
                cases e
                have hch : (Question.mapNext 1).forced = true := rfl
                refine Runs.still h (v' := .tuple #[.bool false]) ?_ (.tup (a := #[.bool false]) (.cons (.bool false) .nil))
                simp [Instr.next, hg, hg2, Result.andThen_ok, hch]
              · cases e
          · cases e
      · cases e
  · cases e
theorem entry_runs (h : HR φ ah w) {it y : AV} {it' : Value} (hx : VR φ it it') (e : entryA ah it = some y) : Runs P φ ah w (Instr.entry it') y ah := by
  unfold entryA at e
  split at e
  · rename_i b
    cases hx with
    | @ptr _ c z _ hp =>
      split at e
      · rename_i m since st last hb
        obtain ⟨o', h1, h2⟩ := h.obj _ _ _ _ hb hp
        generalize hsl : [st] = sl at h2
        cases h2 with
        | @mapIter _ cm zm _ seen _ hm =>
          have hseen : seen = #[st] := Array.toList_inj.1 hsl.symm
          subst hseen
          have hg : (getObj c).run P w = .ok (.mapIter (some cm) since #[st] last) w := getObj_other h1 (fun _ _ _ he => by cases he)
          split at e
          · rename_i k v bo clock hmb
            obtain ⟨om, g1, g2⟩ := h.obj _ _ _ _ hmb hm
            cases g2 with
            | @map _ es' _ he =>
              have hg2 : (getObj cm).run P w = .ok (.map es' clock) w := getObj_map g1
              obtain ⟨es'⟩ := es'
              cases he with
              | @cons _ _ _ en _ r hk hv hbo ht =>
                cases ht
                rw [cnd_eq] at e
                split at e
                · rename_i hb2
                  cases e
                  rw [Bool.and_eq_true] at hb2
                  have e1 := Nat.eq_of_beq_eq_true hb2.1
                  have e2 := Nat.eq_of_beq_eq_true hb2.2
                  subst e1 e2
                  refine Runs.still h (v' := .tuple #[en.key, en.val]) ?_ (.tup (a := #[en.key, en.val]) (.cons hk (.cons hv .nil)))
                  simp [Instr.entry, hg, hg2, Result.andThen_ok, hbo]
                · cases e
          · cases e
      · cases e
  · cases e

/-! ### All operations -/
theorem oval_some {x : Option AV} {r : ORes} (e : oval ah x = some r) : ∃ v, x = some v ∧ r = .val v ah := by
  cases x with
  | none => cases e
  | some v => cases e; exact ⟨v, rfl, rfl⟩
theorem oval2_some {x : Option (AV × AH)} {r : ORes} (e : oval2 x = some r) : ∃ v ah', x = some (v, ah') ∧ r = .val v ah' := by
  cases x with
  | none => cases e
  | some p => obtain ⟨v, a⟩ := p; cases e; exact ⟨v, a, rfl, rfl⟩
theorem oskip_some {x : Option AH} {r : ORes} (e : oskip x = some r) : ∃ ah', x = some ah' ∧ r = .skip ah' := by
  cases x with
  | none => cases e
  | some a => cases e; exact ⟨a, rfl, rfl⟩
theorem on1_some {tm : T AV} {x : Operand} {k : AV → Option ORes} {r : ORes} (e : on1 tm x k = some r) : ∃ v, ev tm x = some v ∧ k v = some r := by
  unfold on1 at e
  split at e
  · rename_i v hv; exact ⟨v, hv, e⟩
  · cases e
theorem onL_some {tm : T AV} {x : List Operand} {k : List AV → Option ORes} {r : ORes} (e : onL tm x k = some r) : ∃ v, evs tm x = some v ∧ k v = some r := by
  unfold onL at e
  split at e
  · rename_i v hv; exact ⟨v, hv, e⟩
  · cases e
theorem onO_some {tm : T AV} {x : Option Operand} {k : Option AV → Option ORes} {r : ORes} (e : onO tm x k = some r) : ∃ v, evO tm x = some v ∧ k v = some r := by
  unfold onO at e
  split at e
  · rename_i v hv; exact ⟨v, hv, e⟩
  · cases e
theorem onP_some {tm : T AV} {x : List (Nat × Operand)} {k : List (Nat × AV) → Option ORes} {r : ORes} (e : onP tm x k = some r) : ∃ v, evParts tm x = some v ∧ k v = some r := by
  unfold onP at e
  split at e
  · rename_i v hv; exact ⟨v, hv, e⟩
  · cases e
inductive DR1 (φ : Phi) : ADef → Deferred → Prop
  | call {f : Nat} {args cap : List AV} {args' cap' : Array Value} (h1 : VRs φ args args'.toList) (h2 : VRs φ cap cap'.toList) : DR1 φ (.call f args cap) { target := .fn (.func f) cap', args := args' }
  | collected {b c z : Nat} (h : φ b = some (c, z)) : DR1 φ (.collected b) { target := .collected c, args := #[] }
/-- What the machine's run of an operation comes to. -/
def OpOk (P : Program) (φ : Phi) (ah : AH) (w : World) (s : Sem Next) : ORes → Prop
  | .val v ah' => ∃ ψ v' w', s.run P w = .ok (.value v') w' ∧ Stp φ ah w ψ ah' w' ∧ VR ψ v v'
  | .skip ah' => ∃ ψ w', s.run P w = .ok .skip w' ∧ Stp φ ah w ψ ah' w'
  | .call f args => ∃ args' : Array Value, VRs φ args args'.toList ∧ s.run P w = (callFunc f args').run P w
  | .yield l args => ∃ c z, ∃ args' : Array Value, φ l = some (c, z) ∧ VRs φ args args'.toList ∧ s.run P w = (Instr.yield c args').run P w
  | .defer d => ∃ d', DR1 φ d d' ∧ s.run P w = .ok (.defer d') w
theorem Runs.ok {s : Sem Value} {v : AV} {ah' : AH} (h : Runs P φ ah w s v ah') : OpOk P φ ah w (do pure (.value (← s))) (.val v ah') := by
  obtain ⟨ψ, v', w', h1, h2, h3⟩ := h
  exact ⟨ψ, v', w', by simp only [Sem.run_bind, h1, Result.andThen_ok, Sem.run_pure], h2, h3⟩
theorem RunsU.ok {s : Sem Unit} {ah' : AH} (h : RunsU P φ ah w s ah') : OpOk P φ ah w (do s; pure .skip) (.skip ah') := by
  obtain ⟨ψ, w', h1, h2⟩ := h
  exact ⟨ψ, w', by simp only [Sem.run_bind, h1, Result.andThen_ok, Sem.run_pure], h2⟩
theorem PRs.arr {l : List (Nat × AV)} {ps : Array (Nat × Operand)} {ρ : Operand → Value} (h : PRs φ l (ps.toList.map fun (i, x) => (i, ρ x))) : PRs φ l (ps.map fun (i, x) => (i, ρ x)).toList := by
  rw [Array.toList_map]; exact h
theorem VRs.arrMap {l : List AV} {ps : Array Operand} {ρ : Operand → Value} (h : VRs φ l (ps.toList.map ρ)) : VRs φ l (ps.map ρ).toList := by
  rw [Array.toList_map]; exact h
theorem opA_ok (hst : ∀ t, kOk t = true → P.stoodInHeld t = false) (h : HR φ ah w) {n : Nat} {tm : T AV} {a : Act} (hf : FR φ n tm a.tmps) {o : Oper} {r : ORes} (e : opA P.underlying P.info? tm ah o = some r) : OpOk P φ ah w (execOp a.eval o) r := by
  obtain ⟨dst, op, ty, pos, after, guard⟩ := o
  have e : opA2 P.underlying P.info? tm ah op = some r := e
  cases op with
  | move x =>
    obtain ⟨v, h1, rfl⟩ := oval_some e
    exact ⟨φ, _, w, rfl, Stp.refl h, ev_VR hf h1⟩
  | assign x =>
    obtain ⟨v, h1, rfl⟩ := oval_some e
    exact ⟨φ, _, w, rfl, Stp.refl h, ev_VR hf h1⟩
  | pick c x y =>
    obtain ⟨v, h1, e⟩ := on1_some e
    unfold oPick2 at e
    split at e
    · rename_i t
      have hc := ev_VR hf h1
      obtain ⟨v, h2, rfl⟩ := oval_some e
      generalize hce : a.eval c = c' at hc
      cases hc
      refine ⟨φ, _, w, ?_, Stp.refl h, ev_VR hf h2⟩
      simp only [execOp, hce]
      cases t <;> rfl
    · cases e
  | alloc t =>
    have e : oNew ah (zeroA P.underlying P.info? t) = some r := e
    unfold oNew at e
    split at e
    · rename_i z hz
      rw [cnd_eq] at e
      split at e
      · rename_i ho
        cases e
        exact ((alloc_fresh (P := P) hz ho φ w).runs h).ok
      · cases e
    · cases e
  | box t x =>
    have e : oNew ah (ev tm x) = some r := e
    unfold oNew at e
    split at e
    · rename_i z hz
      rw [cnd_eq] at e
      split at e
      · rename_i ho
        cases e
        exact ((box_fresh (P := P) (ev_VR hf hz) ho w).runs h).ok
      · cases e
    · cases e
  | build t ps =>
    obtain ⟨l, h1, e⟩ := onP_some e
    obtain ⟨v, h2, rfl⟩ := oval_some e
    exact (build_runs h (evParts_VR hf h1).arr h2).ok
  | buildSlice t m ps =>
    obtain ⟨l, h1, e⟩ := onP_some e
    obtain ⟨v, ah', h2, rfl⟩ := oval2_some e
    obtain ⟨mk, cs, rfl, rfl, _, k⟩ := buildSlice_fresh h2
    exact ((k φ w _ (evParts_VR hf h1).arr).runs h).ok
  | load t x =>
    obtain ⟨v, h1, e⟩ := on1_some e
    obtain ⟨v, h2, rfl⟩ := oval_some e
    exact (loadA_runs h (ev_VR hf h1) h2).ok
  | store t x y =>
    obtain ⟨v, h1, e⟩ := on1_some e
    obtain ⟨u, h2, e⟩ := on1_some e
    obtain ⟨ah', h3, rfl⟩ := oskip_some e
    exact (storeA_runs h (ev_VR hf h1) (ev_VR hf h2) h3).ok
  | nilCheck x =>
    obtain ⟨v, h1, e⟩ := on1_some e
    unfold oNil2 at e
    split at e
    · rename_i b o
      cases e
      have hv := ev_VR hf h1
      generalize hx : a.eval x = x' at hv
      cases hv with
      | ptr o hp =>
        refine ⟨φ, _, w, ?_, Stp.refl h, .ptr o hp⟩
        simp only [execOp, hx]
        rfl
    · cases e
  | binOp op t x y yt =>
    obtain ⟨v, h1, e⟩ := on1_some e
    obtain ⟨u, h2, e⟩ := on1_some e
    obtain ⟨z, h3, rfl⟩ := oval_some e
    exact (bin_runs h (ev_VR hf h1) (ev_VR hf h2) h3).ok
  | unOp op t x =>
    obtain ⟨v, h1, e⟩ := on1_some e
    obtain ⟨z, h3, rfl⟩ := oval_some e
    exact (un_runs h (ev_VR hf h1) h3).ok
  | convert s d x =>
    obtain ⟨v, h1, e⟩ := on1_some e
    obtain ⟨z, ah', h3, rfl⟩ := oval2_some e
    exact (conv_runs h (ev_VR hf h1) h3).ok
  | sliceToArrayPointer t x =>
    obtain ⟨v, h1, e⟩ := on1_some e
    unfold oArr2 at e
    split at e
    · rename_i b o m rm
      split at e
      · rename_i k el hu
        rw [cnd_eq] at e
        split at e
        · rename_i hle
          have hle := Nat.le_of_ble_eq_true hle
          cases e
          have hv := ev_VR hf h1
          refine Runs.ok ?_
          generalize a.eval x = x' at hv
          cases hv with
          | slice _ _ cap sz hp hn hz =>
            refine Runs.still h (v' := .pointer (some ⟨_, o, none⟩)) ?_ (.ptr o hp)
            simp only [Instr.arrayAt, Sem.run_bind, run_underlying hu w, Result.andThen_ok, if_neg (show ¬ m < k by omega), Sem.run_pure]
          | sliceK _ _ cap hp =>
            refine Runs.still h (v' := .pointer (some ⟨_, o, none⟩)) ?_ (.ptr o hp)
            simp only [Instr.arrayAt, Sem.run_bind, run_underlying hu w, Result.andThen_ok, if_neg (show ¬ m < k by omega), Sem.run_pure]
        · cases e
      · cases e
    · cases e
  | makeInterface t x =>
    obtain ⟨v, h1, e⟩ := on1_some e
    obtain ⟨rfl, k⟩ := iface_runs h (ev_VR hf h1) e
    exact k.ok
  | makeFunc fn first cap =>
    have e : oFunc tm ah fn first cap = some r := e
    unfold oFunc at e
    split at e
    · rename_i f
      obtain ⟨l1, h1, e⟩ := onL_some e
      obtain ⟨l2, h2, e⟩ := onL_some e
      cases e
      exact ⟨φ, _, w, rfl, Stp.refl h, .fn (evs_VR hf h1).arrMap (evs_VR hf h2).arrMap⟩
    · cases e
  | makeMap t x =>
    have e : oMap ah x = some r := e
    unfold oMap at e
    split at e
    · cases e; exact (makeMap_runs h t).ok
    · cases e
  | makeSlice t x y =>
    obtain ⟨v, h1, e⟩ := on1_some e
    obtain ⟨u, h2, e⟩ := on1_some e
    obtain ⟨z, ah', h3, rfl⟩ := oval2_some e
    obtain ⟨mk, cs, rfl, rfl, _, k⟩ := makeSlice_fresh h3
    exact ((k φ w _ _ (ev_VR hf h1) (ev_VR hf h2)).runs h).ok
  | slice t x lo hi mx =>
    obtain ⟨v, h1, e⟩ := on1_some e
    obtain ⟨l, h2, e⟩ := onO_some e
    obtain ⟨hh, h3, e⟩ := onO_some e
    obtain ⟨m, h4, e⟩ := onO_some e
    obtain ⟨z, h5, rfl⟩ := oval_some e
    exact (slice_runs h (ev_VR hf h1) (evO_VR hf h2) (evO_VR hf h3) (evO_VR hf h4) h5).ok
  | fieldAddr s x f =>
    obtain ⟨v, h1, e⟩ := on1_some e
    obtain ⟨z, h3, rfl⟩ := oval_some e
    exact (fieldAddr_runs h (ev_VR hf h1) h3).ok
  | field s x f =>
    obtain ⟨v, h1, e⟩ := on1_some e
    obtain ⟨z, h3, rfl⟩ := oval_some e
    exact (field_runs h (ev_VR hf h1) h3).ok
  | indexAddr t x i =>
    obtain ⟨v, h1, e⟩ := on1_some e
    obtain ⟨u, h2, e⟩ := on1_some e
    obtain ⟨z, h3, rfl⟩ := oval_some e
    exact (indexAddr_runs h (ev_VR hf h1) (ev_VR hf h2) h3).ok
  | index t x i =>
    obtain ⟨v, h1, e⟩ := on1_some e
    obtain ⟨u, h2, e⟩ := on1_some e
    obtain ⟨z, h3, rfl⟩ := oval_some e
    exact (index_runs h (ev_VR hf h1) (ev_VR hf h2) h3).ok
  | lookup t x i ok =>
    obtain ⟨v, h1, e⟩ := on1_some e
    obtain ⟨u, h2, e⟩ := on1_some e
    obtain ⟨z, h3, rfl⟩ := oval_some e
    exact (lookup_runs hst h (ev_VR hf h1) (ev_VR hf h2) h3).ok
  | mapUpdate t m k v =>
    obtain ⟨m', h1, e⟩ := on1_some e
    obtain ⟨k', h2, e⟩ := on1_some e
    obtain ⟨v', h3, e⟩ := on1_some e
    obtain ⟨ah', h4, rfl⟩ := oskip_some e
    exact (mapUpdate_runs hst h (ev_VR hf h1) (ev_VR hf h2) (ev_VR hf h3) h4).ok
  | insert t m k v =>
    obtain ⟨m', h1, e⟩ := on1_some e
    obtain ⟨k', h2, e⟩ := on1_some e
    obtain ⟨v', h3, e⟩ := on1_some e
    obtain ⟨ah', h4, rfl⟩ := oskip_some e
    exact (mapUpdate_runs hst h (ev_VR hf h1) (ev_VR hf h2) (ev_VR hf h3) h4).ok
  | range t x =>
    obtain ⟨v, h1, e⟩ := on1_some e
    obtain ⟨z, ah', h3, rfl⟩ := oval2_some e
    exact (range_runs h (ev_VR hf h1) h3).ok
  | next it s =>
    obtain ⟨v, h1, e⟩ := on1_some e
    obtain ⟨z, ah', h3, rfl⟩ := oval2_some e
    exact (next_runs h (ev_VR hf h1) h3).ok
  | entry it =>
    obtain ⟨v, h1, e⟩ := on1_some e
    obtain ⟨z, h3, rfl⟩ := oval_some e
    exact (entry_runs h (ev_VR hf h1) h3).ok
  | typeAssert x xt t ok =>
    obtain ⟨v, h1, e⟩ := on1_some e
    obtain ⟨z, h3, rfl⟩ := oval_some e
    exact (assert_runs h (ev_VR hf h1) h3).ok
  | extract x i =>
    obtain ⟨v, h1, e⟩ := on1_some e
    unfold oExtract2 at e
    split at e
    · rename_i vs
      obtain ⟨z, h3, rfl⟩ := oval_some e
      have hv := ev_VR hf h1
      refine Runs.ok ?_
      generalize a.eval x = x' at hv
      cases hv with
      | @tup _ arr hh =>
        obtain ⟨u, g1, g2⟩ := hh.get i h3
        rw [Array.getElem?_toList] at g1
        exact Runs.still h (by simp only [Instr.extract, g1, Sem.run_pure]) g2
    · cases e
  | call c =>
    obtain ⟨callee, args, ts⟩ := c
    obtain ⟨l, h1, e⟩ := onL_some e
    have hl := (evs_VR hf h1).arrMap
    have e : cGo P.underlying P.info? tm ah ts.toList l callee = some r := e
    cases callee with
    | value f =>
      have e : cValue (ev tm f) l = some r := e
      unfold cValue at e
      split at e
      · rename_i g first cap hg
        cases e
        have hv := ev_VR hf hg
        generalize hx : a.eval f = f' at hv
        cases hv with
        | @fn _ _ _ a1 a2 k1 k2 =>
          refine ⟨a1 ++ args.map a.eval ++ a2, ?_, ?_⟩
          · rw [Array.toList_append, Array.toList_append]
            exact (k1.append hl).append k2
          · simp only [execOp, resolve, hx, Deferred.ofValue, Sem.run_bind, Sem.run_pure, Result.andThen_ok, invoke]
      · rename_i l2 hg
        cases e
        have hv := ev_VR hf hg
        generalize hx : a.eval f = f' at hv
        cases hv with
        | @yield _ c z k1 =>
          refine ⟨c, z, args.map a.eval, k1, hl, ?_⟩
          simp only [execOp, resolve, hx, Deferred.ofValue, Sem.run_bind, Sem.run_pure, Result.andThen_ok, invoke, Array.empty_append]
      · cases e
    | builtin b =>
      have e : cBuiltin P.underlying P.info? b ah ts.toList l = some r := e
      have two : ∀ {s x : AV}, l = [s, x] → ∃ s' x', args.map a.eval = #[s', x'] ∧ VR φ s s' ∧ VR φ x x' := by
        intro s x hl2
        subst hl2
        generalize hm : args.map a.eval = m at hl
        obtain ⟨m⟩ := m
        cases hl with
        | cons q1 t => cases t with
          | cons q2 t => cases t; exact ⟨_, _, rfl, q1, q2⟩
      have one : ∀ {x : AV}, l = [x] → ∃ x', args.map a.eval = #[x'] ∧ VR φ x x' := by
        intro x hl2
        subst hl2
        generalize hm : args.map a.eval = m at hl
        obtain ⟨m⟩ := m
        cases hl with
        | cons q1 t => cases t; exact ⟨_, rfl, q1⟩
      have fin : ∀ {s : Array Bool → Sem Value} {v : AV} {ah' : AH}, (∀ cs, Runs P φ ah w (s cs) v ah') → (∀ cs, (builtin b ts ty cs (args.map a.eval)) = (do pure (.value (← s cs)))) →
          OpOk P φ ah w (execOp a.eval ⟨dst, .call ⟨.builtin b, args, ts⟩, ty, pos, after, guard⟩) (.val v ah') := by
        intro s v ah' hr hb
        have := (hr (args.map fun | .const _ => true | _ => false)).ok
        rw [← hb] at this
        exact this
      unfold cBuiltin at e
      split at e
      · unfold bAppend at e
        split at e
        · obtain ⟨z, ah', h3, rfl⟩ := oval2_some e
          obtain ⟨s', x', hm, q1, q2⟩ := two rfl
          exact fin (s := fun _ => Builtin.append_ ts ty #[s', x']) (fun _ => append_runs h q1 q2 h3) (fun cs => by rw [hm]; rfl)
        · cases e
      · unfold bCopy at e
        split at e
        · obtain ⟨z, ah', h3, rfl⟩ := oval2_some e
          obtain ⟨s', x', hm, q1, q2⟩ := two rfl
          exact fin (s := fun _ => Builtin.copy_ ts ty #[s', x']) (fun _ => copy_runs h q1 q2 h3) (fun cs => by rw [hm]; rfl)
        · cases e
      · unfold bLen at e
        split at e
        · obtain ⟨z, h3, rfl⟩ := oval_some e
          obtain ⟨x', hm, q1⟩ := one rfl
          exact fin (s := fun _ => Builtin.len_ ts ty #[x']) (fun _ => len_runs h q1 h3) (fun cs => by rw [hm]; rfl)
        · cases e
      · obtain ⟨z, h3, rfl⟩ := oval_some e
        exact fin (s := fun _ => Builtin.max_ ts ty (args.map a.eval)) (fun _ => max_runs h hl h3) (fun cs => rfl)
      · obtain ⟨z, h3, rfl⟩ := oval_some e
        exact fin (s := fun _ => Builtin.min_ ts ty (args.map a.eval)) (fun _ => min_runs h hl h3) (fun cs => rfl)
      · cases e
    | invoke _ _ => cases e
  | defer c =>
    obtain ⟨callee, args, ts⟩ := c
    have e : oDefer tm ⟨callee, args, ts⟩ = some r := e
    unfold oDefer at e
    split at e
    · rename_i f args2 ts2 heq
      cases heq
      obtain ⟨l, h1, e⟩ := onL_some e
      have hl := (evs_VR hf h1).arrMap
      obtain ⟨v, h2, e⟩ := on1_some e
      unfold oDefer2 at e
      split at e
      · rename_i g first cap
        cases e
        have hv := ev_VR hf h2
        generalize hx : a.eval f = f' at hv
        cases hv with
        | @fn _ _ _ a1 a2 k1 k2 =>
          refine ⟨_, .call (args' := a1 ++ args.map a.eval) (cap' := a2) (by rw [Array.toList_append]; exact k1.append hl) k2, ?_⟩
          simp only [execOp, resolve, hx, Deferred.ofValue, Sem.run_bind, Sem.run_pure, Result.andThen_ok]
      · cases e
    · cases e
  | _ => cases e
end
end Go.Proofs.YtpmlofbpiajkbaaGreatDoor.M2
