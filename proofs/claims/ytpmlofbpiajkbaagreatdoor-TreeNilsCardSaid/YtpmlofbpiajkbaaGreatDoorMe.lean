/- A verified interpreter: what it says of operands, reads and writes is so. -/
import Derived.Test.YtpmlofbpiajkbaaGreatDoorMd
import Derived.Deep.MidRow
import Derived.Laws.IdiomCopy
set_option linter.unusedVariables false
set_option linter.unusedSimpArgs false
namespace Go.Proofs.YtpmlofbpiajkbaaGreatDoor.M2
open Go
variable {P : Program} {φ : Phi} {ah : AH} {w : World}

/-! ## Operands -/
theorem ev_VR {n : Nat} {tm : T AV} {a : Act} (h : FR φ n tm a.tmps) {o : Operand} {x : AV} (e : ev tm o = some x) : VR φ x (a.eval o) := by
  cases o with
  | tmp t => exact h.at_ t x e
  | const v => exact ofVal_VR φ e
  | global g => cases e
  | func f => cases e; exact .fn (a1 := #[]) (a2 := #[]) .nil .nil
theorem evs_VR {n : Nat} {tm : T AV} {a : Act} (h : FR φ n tm a.tmps) : ∀ {l : List Operand} {xs : List AV}, evs tm l = some xs → VRs φ xs (l.map a.eval)
  | [], _, e => by cases e; exact .nil
  | o :: r, xs, e => by
    unfold evs at e
    split at e
    · cases e
    · rename_i x hx
      split at e
      · cases e
      · rename_i l hl
        cases e
        exact .cons (ev_VR h hx) (evs_VR h hl)
inductive ORs (φ : Phi) : Option AV → Option Value → Prop
  | none : ORs φ none none
  | some {x : AV} {v : Value} (h : VR φ x v) : ORs φ (some x) (some v)
theorem evO_VR {n : Nat} {tm : T AV} {a : Act} (h : FR φ n tm a.tmps) {o : Option Operand} {x : Option AV} (e : evO tm o = some x) : ORs φ x (o.map a.eval) := by
  cases o with
  | none => cases e; exact .none
  | some o =>
    have e : (match ev tm o with | some x => some (some x) | none => none) = some x := e
    split at e
    · rename_i y hx; cases e; exact .some (ev_VR h hx)
    · cases e
inductive PRs (φ : Phi) : List (Nat × AV) → List (Nat × Value) → Prop
  | nil : PRs φ [] []
  | cons {i : Nat} {x : AV} {v : Value} {l : List (Nat × AV)} {r : List (Nat × Value)} (h : VR φ x v) (t : PRs φ l r) : PRs φ ((i, x) :: l) ((i, v) :: r)
theorem evParts_VR {n : Nat} {tm : T AV} {a : Act} (h : FR φ n tm a.tmps) : ∀ {l : List (Nat × Operand)} {xs : List (Nat × AV)}, evParts tm l = some xs → PRs φ xs (l.map fun (i, x) => (i, a.eval x))
  | [], _, e => by cases e; exact .nil
  | (i, o) :: r, xs, e => by
    unfold evParts at e
    split at e
    · cases e
    · rename_i x hx
      split at e
      · cases e
      · rename_i l hl
        cases e
        exact .cons (ev_VR h hx) (evParts_VR h hl)

/-! ## Types -/
theorem isAg_run {t : TypeId} {b : Bool} (h : isAg P.underlying P.info? t = some b) (w : World) : (Go.isAgg t).run P w = .ok b w := by
  unfold isAg at h
  unfold Go.isAgg
  split at h
  · rename_i fs hu; cases h; rw [Sem.run_bind, run_underlying hu w]; rfl
  · rename_i n e hu; cases h; rw [Sem.run_bind, run_underlying hu w]; rfl
  · rename_i d hs ha hu
    cases h
    rw [Sem.run_bind, run_underlying hu w]
    cases d <;> first | rfl | exact absurd rfl (hs _) | exact absurd rfl (ha _ _)
  · cases h
theorem szOf_info {t : TypeId} {n : Nat} (h : szOf P.underlying P.info? t = some n) : (P.info? t).map (·.size) = some n := by
  unfold szOf at h
  split at h
  · rename_i i hi; cases h; rw [hi]; rfl
  · cases h
theorem szOf_run {t : TypeId} {n : Nat} (h : szOf P.underlying P.info? t = some n) (w : World) : (sizeOf t).run P w = .ok n w := by
  unfold szOf at h
  split at h
  · rename_i i hi; cases h; simp [sizeOf, typeInfo, hi]
  · cases h
theorem zeroA_run {t : TypeId} {z : AV} (h : zeroA P.underlying P.info? t = some z) (φ : Phi) (w : World) : ∃ v, (zeroValue t).run P w = .ok v w ∧ VR φ z v ∧ (P.info? t).bind (·.zero) = some v := by
  unfold zeroA at h
  split at h
  · rename_i i hi
    split at h
    · rename_i v hz
      exact ⟨v, by simp [zeroValue, typeInfo, hi, hz], ofVal_VR φ h, by simp [hi, hz]⟩
    · cases h
  · cases h

/-! ## Cells -/
theorem cellsA_get {b : Nat} {l : List AV} (h : cellsA ah b = some l) : ah.get b = some (.cells l) := by
  unfold cellsA at h
  split at h
  · rename_i c hc; cases h; exact hc
  · cases h
/-- A live row, as the machine has it. -/
theorem HR.row (h : HR φ ah w) {b c z : Nat} {l : List AV} (hb : cellsA ah b = some l) (hp : φ b = some (c, z)) :
    ∃ (c' : Array Value) (t : TypeId) (fr : Nat × Nat), w.heap[c]? = some (.cells c' t fr) ∧ c'.size = z ∧ l.length ≤ z ∧ VRs φ l (c'.toList.take l.length) ∧ (fr.1 = fr.2 ∨ z ≤ fr.1) ∧ ∀ v ∈ c'.toList.take l.length, v.oneCell' = true := by
  obtain ⟨o', h1, h2⟩ := h.obj b _ c z (cellsA_get hb) hp
  cases h2 with
  | cells hs hl hc hf ho => exact ⟨_, _, _, h1, hs, hl, hc, hf, ho⟩
theorem mem_seg {l : List Value} {o n L : Nat} {v : Value} (h : o + n ≤ L) (hv : v ∈ (l.drop o).take n) : v ∈ l.take L := by
  have h2 : (l.drop o).take n = ((l.take L).drop o).take n := by
    rw [List.drop_take, List.take_take, Nat.min_eq_left (by omega)]
  rw [h2] at hv
  exact List.mem_of_mem_drop (List.mem_of_mem_take hv)
theorem cell_at {c o : Nat} {c' : Array Value} {t : TypeId} {fr : Nat × Nat} (hw : w.heap[c]? = some (.cells c' t fr)) : w.cell? ⟨c, o, none⟩ = c'[o]? := by
  simp [World.cell?, hw]
/-- A stretch of a live row. -/
theorem HR.seg (h : HR φ ah w) {b c z : Nat} {l xs : List AV} {o n : Nat} (hb : cellsA ah b = some l) (hp : φ b = some (c, z)) (hs : seg l o n = some xs) :
    ∃ vs : List Value, vs.length = n ∧ VRs φ xs vs ∧ w.rangeAt c o vs ∧ (∀ v ∈ vs, v.oneCell' = true) ∧ w.there c o n := by
  obtain ⟨c', t, fr, h1, h2, h3, h4, h5, h6⟩ := h.row hb hp
  unfold M2.seg at hs
  rw [cnd_eq] at hs
  split at hs
  · rename_i hn
    have hn := Nat.eq_of_beq_eq_true hn
    cases hs
    rw [List.length_take, List.length_drop] at hn
    refine ⟨(c'.toList.drop o).take n, ?_, ?_, ?_, ?_, ?_⟩
    · rw [List.length_take, List.length_drop, Array.length_toList]; omega
    · have := (h4.drop o).take n
      rwa [List.drop_take, List.take_take, Nat.min_eq_left (by omega)] at this
    · intro j v hj
      rw [List.getElem?_take] at hj
      split at hj
      · rw [List.getElem?_drop] at hj
        rw [cell_at h1, ← Array.getElem?_toList]; exact hj
      · cases hj
    · intro v hv
      rcases Nat.eq_zero_or_pos n with h0 | h0
      · rw [h0, List.take_zero] at hv; cases hv
      · exact h6 v (mem_seg (by omega) hv)
    · intro j hj
      refine ⟨?_, ?_⟩
      · rw [cell_at h1, Array.getElem?_eq_getElem (by omega)]; rfl
      · have := frz h5 (o + j) (by omega)
        simp only [World.frozen?, h1]
        simpa using this
  · cases hs
theorem HR.cell (h : HR φ ah w) {b c z : Nat} {l : List AV} {o : Nat} {x : AV} (hb : cellsA ah b = some l) (hp : φ b = some (c, z)) (hx : l[o]? = some x) :
    ∃ v, w.cell? ⟨c, o, none⟩ = some v ∧ VR φ x v := by
  obtain ⟨c', t, fr, h1, h2, h3, h4, h5, h6⟩ := h.row hb hp
  obtain ⟨v, hv, hr⟩ := h4.get o hx
  rw [List.getElem?_take] at hv
  split at hv
  · exact ⟨v, by rw [cell_at h1, ← Array.getElem?_toList]; exact hv, hr⟩
  · cases hv

/-! ## What an operation's run comes to -/
/-- The run ends well, with what the value stands for, and the heap so. -/
def Runs (P : Program) (φ : Phi) (ah : AH) (w : World) (s : Sem Value) (v : AV) (ah' : AH) : Prop := ∃ ψ v' w', s.run P w = .ok v' w' ∧ Stp φ ah w ψ ah' w' ∧ VR ψ v v'
def RunsU (P : Program) (φ : Phi) (ah : AH) (w : World) (s : Sem Unit) (ah' : AH) : Prop := ∃ ψ w', s.run P w = .ok () w' ∧ Stp φ ah w ψ ah' w'
theorem Runs.still (h : HR φ ah w) {s : Sem Value} {v : AV} {v' : Value} (hs : s.run P w = .ok v' w) (hv : VR φ v v') : Runs P φ ah w s v ah := ⟨φ, v', w, hs, Stp.refl h, hv⟩
theorem loadA_still (h : HR φ ah w) {t : TypeId} {x y : AV} {x' : Value} (hx : VR φ x x') (e : loadA P.underlying P.info? ah t x = some y) : ∃ v, (Instr.loadAt t x').run P w = .ok v w ∧ VR φ y v := by
  unfold loadA at e
  split at e
  · rename_i b o
    cases hx with
    | ptr o hp =>
      split at e
      · rename_i hag
        split at e
        · rename_i n hn
          split at e
          · rename_i l hl
            cases e
            unfold segA at hl
            split at hl
            · rename_i c hc
              obtain ⟨vs, hlen, hvs, hrg, h1, _⟩ := h.seg hc hp hl
              have hd : ∃ d, P.underlying t = some d ∧ d.isRow = true := by
                unfold isAg at hag
                split at hag
                · rename_i fs hu; exact ⟨_, hu, rfl⟩
                · rename_i k e hu; exact ⟨_, hu, rfl⟩
                · cases hag
                · cases hag
              obtain ⟨d, hu, hrow⟩ := hd
              exact ⟨_, run_loadAt_mid w _ o t vs d hrg hu hrow (by rw [szOf_info hn, hlen]), .agg (a := vs.toArray) (by simpa using hvs) (by simpa using h1)⟩
            · cases hl
          · cases e
        · cases e
      · rename_i hag
        split at e
        · rename_i c hc
          obtain ⟨v, hv, hr⟩ := h.cell hc hp e
          refine ⟨v, ?_, hr⟩
          simp only [Instr.loadAt, Instr.sureAddr, loadVar, Sem.run_bind, Sem.run_pure, Result.andThen_ok, isAg_run hag, load, Bool.false_eq_true, if_false, Sem.run, hv]
        · cases e
      · cases e
  · cases e
theorem loadA_runs (h : HR φ ah w) {t : TypeId} {x y : AV} {x' : Value} (hx : VR φ x x') (e : loadA P.underlying P.info? ah t x = some y) : Runs P φ ah w (Instr.loadAt t x') y ah := by
  obtain ⟨v, h1, h2⟩ := loadA_still h hx e
  exact Runs.still h h1 h2
theorem ovr_length : ∀ (o : Nat) (vs c : List AV), o + vs.length ≤ c.length → (ovr o vs c).length = c.length
  | 0, vs, c, h => by simp only [ovr, List.length_append, List.length_drop]; omega
  | o + 1, vs, [], h => absurd h (by simp)
  | o + 1, vs, x :: c, h => by
    simp only [ovr, List.length_cons] at *
    rw [ovr_length o vs c (by omega)]
theorem fits_le {c : List AV} {o n : Nat} (h : fits c o n = true) (hn : 0 < n) : o + n ≤ c.length := by
  unfold fits at h
  rw [cnd_eq, if_neg (by intro hb; have := Nat.eq_of_beq_eq_true hb; omega)] at h
  split at h
  · cases h
  · rename_i x r hd
    have : (c.drop (o + n - 1)).length = r.length + 1 := by rw [hd]; rfl
    rw [List.length_drop] at this
    omega
theorem VRs.ovr {φ : Phi} : ∀ (o : Nat) {xs c : List AV} {vs r : List Value}, VRs φ xs vs → VRs φ c r → o + xs.length ≤ c.length → VRs φ (M2.ovr o xs c) (r.take o ++ vs ++ r.drop (o + vs.length))
  | 0, xs, c, vs, r, hx, hc, h => by
    have := hx.append (hc.drop xs.length)
    rw [hx.length] at this
    simpa [M2.ovr, hx.length] using this
  | o + 1, xs, [], vs, r, hx, hc, h => absurd h (by simp)
  | o + 1, xs, x :: c, vs, r, hx, hc, h => by
    cases hc with
    | cons a t =>
      rename_i v r
      have := VRs.ovr o hx t (by simpa [Nat.add_right_comm] using h)
      rw [show o + 1 + vs.length = (o + vs.length) + 1 by omega, List.take_succ_cons, List.drop_succ_cons]
      exact .cons a this
/-- Cells laid over a block. -/
theorem heap_setCells (c : Nat) (c' : Array Value) (t : TypeId) (fr : Nat × Nat) : ∀ (vs : List Value) (o : Nat) (w : World), w.heap[c]? = some (.cells c' t fr) → o + vs.length ≤ c'.size →
    (w.setCells c o vs).heap.size = w.heap.size ∧ (∀ j, j ≠ c → (w.setCells c o vs).heap[j]? = w.heap[j]?) ∧ (w.setCells c o vs).heap[c]? = some (.cells (c'.toList.take o ++ vs ++ c'.toList.drop (o + vs.length)).toArray t fr) := by
  intro vs
  induction vs generalizing c' with
  | nil =>
    intro o w hw _
    refine ⟨rfl, fun _ _ => rfl, ?_⟩
    show w.heap[c]? = _
    rw [hw]; simp
  | cons v r ih =>
    intro o w hw hl
    simp only [List.length_cons] at hl
    have hlt : c < w.heap.size := (Array.getElem?_eq_some_iff.1 hw).1
    have hs : (w.setCell ⟨c, o, none⟩ v).heap[c]? = some (.cells (c'.setIfInBounds o v) t fr) := by
      simp only [World.setCell, Array.getElem?_modify, if_pos rfl, hw, Option.map_some]
      rfl
    obtain ⟨h1, h2, h3⟩ := ih (c'.setIfInBounds o v) (o + 1) (w.setCell ⟨c, o, none⟩ v) hs (by rw [Array.size_setIfInBounds]; omega)
    refine ⟨?_, ?_, ?_⟩
    · show ((w.setCell ⟨c, o, none⟩ v).setCells c (o + 1) r).heap.size = _
      rw [h1]; simp [World.setCell]
    · intro j hj
      show ((w.setCell ⟨c, o, none⟩ v).setCells c (o + 1) r).heap[j]? = _
      rw [h2 j hj]
      simp only [World.setCell, Array.getElem?_modify]
      rw [if_neg (fun e => hj e.symm)]
    · show ((w.setCell ⟨c, o, none⟩ v).setCells c (o + 1) r).heap[c]? = _
      rw [h3]
      congr 2
      simp only [Array.toList_setIfInBounds]
      rw [List.take_set, List.drop_set_of_lt (by omega)]
      have hol : o < c'.toList.length := by rw [Array.length_toList]; omega
      rw [List.take_succ_eq_append_getElem hol, List.set_append_right _ _ (by rw [List.length_take]; omega)]
      simp only [List.length_take, Nat.min_eq_left (Nat.le_of_lt hol), Nat.sub_self, List.set_cons_zero, List.length_cons, List.append_assoc, List.cons_append, List.nil_append]
      rw [show o + 1 + r.length = o + (r.length + 1) by omega]
theorem lay_take (r vs : List Value) (o L : Nat) (h : o + vs.length ≤ L) (hr : L ≤ r.length) : (r.take o ++ vs ++ r.drop (o + vs.length)).take L = (r.take L).take o ++ vs ++ (r.take L).drop (o + vs.length) := by
  have hl : (r.take o ++ vs).length = o + vs.length := by rw [List.length_append, List.length_take]; omega
  rw [List.take_append, List.take_of_length_le (by omega : (r.take o ++ vs).length ≤ L), hl, List.take_take, Nat.min_eq_left (by omega), List.drop_take]
theorem env_setCells (c : Nat) : ∀ (vs : List Value) (o : Nat) (w : World), Env w (w.setCells c o vs)
  | [], _, w => Env.refl w
  | v :: r, o, w => Env.trans (w2 := w.setCell ⟨c, o, none⟩ v) ⟨rfl, rfl, rfl⟩ (env_setCells c r (o + 1) _)
theorem ovr_nil : ∀ (o : Nat) (c : List AV), ovr o [] c = c
  | 0, c => by simp [ovr]
  | o + 1, [] => rfl
  | o + 1, x :: c => by simp [ovr, ovr_nil o c]
theorem putA_runs (h : HR φ ah w) {b c z o : Nat} {xs : List AV} {vs : List Value} {ah' : AH} (hp : φ b = some (c, z)) (hx : VRs φ xs vs) (h1 : ∀ v ∈ vs, v.oneCell' = true) (e : putA ah b o xs = some ah') :
    (storeCells ⟨c, o, none⟩ vs).run P w = .ok () (w.setCells c o vs) ∧ Stp φ ah w φ ah' (w.setCells c o vs) := by
  unfold putA at e
  split at e
  · rename_i l hl
    rw [cnd_eq] at e
    split at e
    · rename_i hf
      cases e
      obtain ⟨c', t, fr, g1, g2, g3, g4, g5, g6⟩ := h.row hl hp
      have hlen := hx.length
      rcases Nat.eq_zero_or_pos xs.length with h0 | hpos
      · have hv0 : vs = [] := by rw [← List.length_eq_zero_iff, ← hlen]; exact h0
        have hx0 : xs = [] := by rw [← List.length_eq_zero_iff]; exact h0
        subst hv0 hx0
        refine ⟨rfl, ?_⟩
        rw [ovr_nil]
        exact Stp.turn h (cellsA_get hl) hp rfl (fun _ _ => rfl) g1 (.cells g2 g3 g4 g5 g6)
      · have hfit := fits_le hf hpos
        obtain ⟨k1, k2, k3⟩ := heap_setCells c c' t fr vs o w g1 (by omega)
        refine ⟨?_, Stp.turn h (cellsA_get hl) hp k1 k2 k3 ?_ (env_setCells c vs o w)⟩
        · have := run_storeCells_cells (P := P) c o vs 0 w (fun j hj => by
            rw [Nat.add_zero, cell_at g1, Array.getElem?_eq_getElem (by omega)]; rfl) (fun j hj => by
            have := frz g5 (o + j) (by omega)
            simp only [World.frozen?, g1]
            simpa using this) h1
          simpa using this
        · have hol := ovr_length o xs l hfit
          refine .cells ?_ (by rw [hol]; exact g3) ?_ g5 ?_
          · simp only [List.size_toArray, List.length_append, List.length_take, List.length_drop, Array.length_toList]; omega
          · rw [hol, List.toList_toArray]
            rw [lay_take _ _ _ _ (by omega) (by have := Array.length_toList (xs := c'); omega)]
            exact VRs.ovr o hx g4 hfit
          · intro v hv
            rw [hol, List.toList_toArray] at hv
            rw [lay_take _ _ _ _ (by omega) (by have := Array.length_toList (xs := c'); omega)] at hv
            simp only [List.mem_append] at hv
            rcases hv with (hv | hv) | hv
            · exact g6 v (List.mem_of_mem_take hv)
            · exact h1 v hv
            · exact g6 v (List.mem_of_mem_drop hv)
    · cases e
  · cases e
theorem storeA_runs (h : HR φ ah w) {t : TypeId} {x v : AV} {x' v' : Value} {ah' : AH} (hx : VR φ x x') (hv : VR φ v v') (e : storeA P.underlying P.info? ah t x v = some ah') : RunsU P φ ah w (Instr.storeAt t x' v') ah' := by
  unfold storeA at e
  split at e
  · rename_i b o
    cases hx with
    | ptr o hp =>
      split at e
      · rename_i n hn
        rw [cnd_eq] at e
        split at e
        · rename_i hc
          rw [Bool.and_eq_true] at hc
          have hlen := Nat.eq_of_beq_eq_true hc.1
          have hcs := hv.cells
          obtain ⟨k1, k2⟩ := putA_runs (P := P) h hp hcs (hv.okc hc.2) e
          refine ⟨φ, _, ?_, k2⟩
          have hsz : v'.cells.size = n := by rw [← Array.length_toList, ← hcs.length, hlen]
          simp only [Instr.storeAt, Instr.sureAddr, storeVar, Sem.run_bind, Sem.run_pure, Result.andThen_ok, szOf_run hn, hsz, ne_eq, not_true_eq_false, if_false]
          exact k1
        · cases e
      · cases e
  · cases e
end Go.Proofs.YtpmlofbpiajkbaaGreatDoor.M2
