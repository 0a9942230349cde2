/- A verified interpreter: what it says of aggregates, conversions, lengths is so. -/
import Derived.Test.YtpmlofbpiajkbaaGreatDoorMg
import Derived.Laws.Tables
import Derived.Laws.MakeOwn
set_option linter.unusedVariables false
set_option linter.unusedSimpArgs false
namespace Go.Proofs.YtpmlofbpiajkbaaGreatDoor.M2
open Go
section
variable {P : Program} {φ : Phi} {ah : AH} {w : World}
theorem foldl_lay : ∀ (vs : List Value) (off k : Nat) (cs : Array Value), off + k + vs.length ≤ cs.size →
    ((vs.zipIdx k).foldl (fun (cs : Array Value) p => cs.setIfInBounds (off + p.2) p.1) cs).toList = cs.toList.take (off + k) ++ vs ++ cs.toList.drop (off + k + vs.length)
  | [], off, k, cs, _ => by simp
  | v :: r, off, k, cs, h => by
    simp only [List.length_cons] at h
    rw [List.zipIdx_cons, List.foldl_cons, foldl_lay r off (k + 1) _ (by rw [Array.size_setIfInBounds]; omega)]
    simp only [Array.toList_setIfInBounds]
    have hol : off + k < cs.toList.length := by rw [Array.length_toList]; omega
    rw [show off + (k + 1) = off + k + 1 by omega, List.take_set, List.drop_set_of_lt (by omega), List.take_succ_eq_append_getElem hol, List.set_append_right _ _ (by rw [List.length_take]; omega)]
    simp only [List.length_take, Nat.min_eq_left (Nat.le_of_lt hol), Nat.sub_self, List.set_cons_zero, List.length_cons, List.append_assoc, List.cons_append, List.nil_append]
    rw [show off + k + 1 + r.length = off + k + (r.length + 1) by omega]
theorem fill_run {place : Nat → Option (Nat × Nat)} : ∀ {parts : List (Nat × AV)} {parts' : List (Nat × Value)} {cs ys : List AV} {a : Array Value}, PRs φ parts parts' → VRs φ cs a.toList → (∀ v ∈ a.toList, v.oneCell' = true) →
    fillA place cs parts = some ys → ∃ a2, Instr.fill place a parts' = some a2 ∧ VRs φ ys a2.toList ∧ (∀ v ∈ a2.toList, v.oneCell' = true) ∧ a2.size = a.size
  | [], _, cs, ys, a, hp, hc, h1, e => by cases hp; cases e; exact ⟨a, rfl, hc, h1, rfl⟩
  | (i, x) :: rest, _, cs, ys, a, hp, hc, h1, e => by
    cases hp with
    | cons hx t =>
      rename_i v r
      unfold fillA at e
      split at e
      · cases e
      · rename_i off size hpl
        rw [cnd_eq] at e
        split at e
        · rename_i hb
          simp only [Bool.and_eq_true] at hb
          obtain ⟨⟨⟨b1, b2⟩, b0⟩, b3⟩ := hb
          have b1 := Nat.eq_of_beq_eq_true b1
          have hpos : 0 < size := by
            rcases Nat.eq_zero_or_pos size with h0 | hpos
            · rw [h0] at b0; exact absurd b0 (by decide)
            · exact hpos
          have hcs := hx.cells
          have hlen := hcs.length
          have hsz : v.cells.size = size := by rw [← Array.length_toList, ← hlen, b1]
          have hca : cs.length = a.size := by rw [hc.length, Array.length_toList]
          have hfit := fits_le b3 (by omega)
          have hlay := foldl_lay v.cells.toList off 0 a (by rw [Array.length_toList]; omega)
          have hov := VRs.ovr off hcs hc hfit
          obtain ⟨a2, k1, k2, k3, k4⟩ := fill_run (a := v.cells.zipIdx.foldl (fun cs p => cs.setIfInBounds (off + p.2) p.1) a) t (by
            rw [← Array.foldl_toList, Array.toList_zipIdx, hlay]; exact hov) (by
            rw [← Array.foldl_toList, Array.toList_zipIdx, hlay]
            intro u hu
            rcases List.mem_append.1 hu with hu | hu
            · rcases List.mem_append.1 hu with hu | hu
              · exact h1 u (List.mem_of_mem_take hu)
              · exact hx.okc b2 u hu
            · exact h1 u (List.mem_of_mem_drop hu)) e
          refine ⟨a2, ?_, k2, k3, ?_⟩
          · unfold Instr.fill
            rw [hpl]
            show (if _ then _ else _) = _
            rw [if_neg (by simp; omega)]
            exact k1
          · rw [k4, ← Array.length_toList, ← Array.foldl_toList, Array.toList_zipIdx, hlay]
            simp only [List.length_append, List.length_take, List.length_drop, Array.length_toList]
            omega
        · cases e
theorem places_run : ∀ {fs : List Field} {pl : List (Nat × Nat)}, placesA P.underlying P.info? fs = some pl → fs.mapM (fun f => (P.info? f.type).map fun i => (f.offset, i.size)) = some pl
  | [], _, e => by cases e; rfl
  | f :: r, pl, e => by
    unfold placesA at e
    split at e
    · cases e
    · rename_i n hn
      split at e
      · cases e
      · rename_i l hl
        cases e
        have h1 := szOf_info hn
        obtain ⟨i, hi, rfl⟩ := Option.map_eq_some_iff.1 h1
        simp [List.mapM_cons, hi, places_run hl]
theorem build_runs (h : HR φ ah w) {t : TypeId} {parts : List (Nat × AV)} {parts' : Array (Nat × Value)} {y : AV} (hp : PRs φ parts parts'.toList) (e : buildA P.underlying P.info? t parts = some y) : Runs P φ ah w (Instr.build t parts') y ah := by
  unfold buildA at e
  split at e
  · cases e
  · rename_i z hz
    obtain ⟨zv, hz1, hz2, hz3⟩ := zeroA_run hz φ w
    obtain ⟨it, hit, hzz⟩ := Option.bind_eq_some_iff.1 hz3
    rw [cnd_eq] at e
    split at e
    · rename_i hok
      split at e
      · rename_i l hl
        cases e
        unfold buildA2 at hl
        split at hl
        · rename_i fs hu
          split at hl
          · cases hl
          · rename_i pl hpl
            obtain ⟨a2, k1, k2, k3, _⟩ := fill_run hp hz2.cells (hz2.okc hok) hl
            refine Runs.still h (run_build w t parts' a2 ?_) (.agg k2 k3)
            unfold Program.built
            rw [hit, hu]
            simp only [hzz, places_run hpl]
            have : (fun i : Nat => pl[i]?) = (fun x : Nat => pl.toArray[x]?) := by funext i; simp
            rw [this] at k1
            exact k1
        · rename_i n el hu
          split at hl
          · cases hl
          · rename_i sz hs
            obtain ⟨a2, k1, k2, k3, _⟩ := fill_run hp hz2.cells (hz2.okc hok) hl
            obtain ⟨ie, hie, rfl⟩ := Option.map_eq_some_iff.1 (szOf_info hs)
            refine Runs.still h (run_build w t parts' a2 ?_) (.agg k2 k3)
            unfold Program.built
            rw [hit, hu]
            simp only [hzz, hie]
            exact k1
        · cases hl
      · cases e
    · cases e
/-- The run makes one block, so filled, and its value is told by the block's name alone. -/
def Fresh (P : Program) (φ : Phi) (w : World) (s : Sem Value) (mk : Nat → AV) (cs : List AV) : Prop :=
  ∃ v' w' z o', s.run P w = .ok v' w' ∧ (w'.heap = w.heap.push o' ∧ Env w w') ∧ OR φ z (.cells cs) o' ∧ ∀ (ψ : Phi) (b : Nat), φ.le ψ → ψ b = some (w.heap.size, z) → VR ψ (mk b) v'
theorem HR.heap {w1 w2 : World} (h : HR φ ah w1) (e : w2.heap = w1.heap) : HR φ ah w2 :=
  ⟨fun b o c z hb hc => by rw [e]; exact h.obj b o c z hb hc, h.inj, fun b c z hc => by rw [e]; exact h.dom b c z hc⟩
theorem Stp.heap {ψ : Phi} {ah' : AH} {w1 w2 : World} (h : Stp φ ah w ψ ah' w1) (e : w2.heap = w1.heap) (hv : Env w w2) : Stp φ ah w ψ ah' w2 :=
  ⟨h.le, h.old, h.nx, h.hr.heap e, ⟨by rw [e]; exact h.out.1, fun c hc hn => by rw [e]; exact h.out.2 c hc hn⟩, h.src, hv⟩
theorem Fresh.runs {s : Sem Value} {mk : Nat → AV} {cs : List AV} (hf : Fresh P φ w s mk cs) (h : HR φ ah w) : Runs P φ ah w s (mk ah.next) (ah.new (.cells cs)) := by
  obtain ⟨v', w', z, o', h1, h2, h3, h4⟩ := hf
  exact ⟨_, v', w', h1, (Stp.new h (h3.mono (Phi.le_add h.none_next))).heap h2.1 h2.2, h4 _ _ (Phi.le_add h.none_next) (Phi.add_self _ _ _ _)⟩
theorem row_or {cs : List AV} {a : Array Value} (hc : VRs φ cs a.toList) (h1 : ∀ v ∈ a.toList, v.oneCell' = true) (t : TypeId) : OR φ a.size (.cells cs) (.cells a t) := by
  have hlen : cs.length = a.size := by rw [hc.length, Array.length_toList]
  refine .cells rfl (by omega) ?_ (.inl rfl) (fun v hv => h1 v (List.mem_of_mem_take hv))
  rw [hlen, List.take_of_length_le (by rw [Array.length_toList]; exact Nat.le_refl _)]
  exact hc
theorem new_fresh {t : TypeId} {x : AV} {x' : Value} (hx : VR φ x x') (ho : x.okc = true) {s : Sem Value} (hs : s.run P w = .ok (.pointer (some ⟨w.heap.size, 0, none⟩)) (w.alloc (.cells x'.cells t))) : Fresh P φ w s (fun b => .ptr b 0) x.cells :=
  ⟨_, _, _, _, hs, ⟨rfl, rfl, rfl, rfl⟩, row_or hx.cells (hx.okc ho) t, fun ψ b _ e => .ptr 0 e⟩
theorem alloc_fresh {t : TypeId} {z : AV} (hz : zeroA P.underlying P.info? t = some z) (ho : z.okc = true) (φ : Phi) (w : World) : Fresh P φ w (Instr.alloc t true (.tuple #[])) (fun b => .ptr b 0) z.cells := by
  obtain ⟨zv, hz1, hz2, _⟩ := zeroA_run hz φ w
  exact new_fresh hz2 ho (t := t) (by simp only [Instr.alloc, Sem.run_bind, hz1, Result.andThen_ok, newVar, newRow, run_newObj, Sem.run_pure]; rfl)
theorem box_fresh {t : TypeId} {x : AV} {x' : Value} (hx : VR φ x x') (ho : x.okc = true) (w : World) : Fresh P φ w (Instr.box t x') (fun b => .ptr b 0) x.cells :=
  new_fresh hx ho (t := t) (by simp only [Instr.box, Sem.run_bind, newVar, newRow, run_newObj, Result.andThen_ok, Sem.run_pure]; rfl)
theorem VRs.of_get {φ : Phi} : ∀ {l : List AV} {r : List Value}, l.length = r.length → (∀ (i : Nat) (x : AV), l[i]? = some x → ∃ v, r[i]? = some v ∧ VR φ x v) → VRs φ l r
  | [], [], _, _ => .nil
  | [], _ :: _, h, _ => by cases h
  | _ :: _, [], h, _ => by cases h
  | x :: l, v :: r, h, hg => by
    obtain ⟨v2, hv, hr⟩ := hg 0 x rfl
    cases hv
    exact .cons hr (VRs.of_get (by simpa using h) (fun i y hy => by simpa using hg (i + 1) y (by simpa using hy)))
theorem rep_get (z : List AV) : ∀ (m i : Nat), i < m * z.length → ((List.replicate m z).flatten)[i]? = z[i % z.length]?
  | 0, i, h => absurd h (by simp)
  | m + 1, i, h => by
    rw [List.replicate_succ, List.flatten_cons]
    by_cases hi : i < z.length
    · rw [List.getElem?_append_left hi, Nat.mod_eq_of_lt hi]
    · rw [List.getElem?_append_right (by omega), rep_get z m (i - z.length) (by rw [Nat.succ_mul] at h; omega)]
      congr 1
      rw [Nat.mod_eq_sub_mod (by omega : i ≥ z.length)]
theorem rep_run {z ys : List AV} {zv : Array Value} {n : Nat} (hz : VRs φ z zv.toList) (h1 : ∀ v ∈ zv.toList, v.oneCell' = true) (hpos : 0 < z.length) (e : repA z n = some ys) :
    VRs φ ys ((Array.range n).map (zv[· % zv.size]!)).toList ∧ ∀ v ∈ ((Array.range n).map (zv[· % zv.size]!)).toList, v.oneCell' = true := by
  have hk : zv.size = z.length := by rw [hz.length, Array.length_toList]
  have key : ys.length = n ∧ ∀ (i : Nat) (x : AV), ys[i]? = some x → z[i % z.length]? = some x := by
    unfold repA at e
    split at e
    · rename_i x
      cases e
      refine ⟨by simp, fun i y hy => ?_⟩
      obtain ⟨hlt, rfl⟩ := List.getElem?_eq_some_iff.1 hy
      simp [Nat.mod_one]
    · rename_i hne
      rw [cnd_eq, if_neg (by intro hb; have := Nat.eq_of_beq_eq_true hb; omega), cnd_eq] at e
      split at e
      · rename_i hm
        have hm := Nat.eq_of_beq_eq_true hm
        cases e
        have hnn : n / z.length * z.length = n := Nat.div_mul_cancel (Nat.dvd_of_mod_eq_zero hm)
        have hl : ((List.replicate (n / z.length) z).flatten).length = n := by
          have : ∀ m, ((List.replicate m z).flatten).length = m * z.length := by
            intro m
            induction m with
            | zero => simp
            | succ m ih => rw [List.replicate_succ, List.flatten_cons, List.length_append, ih, Nat.succ_mul]; omega
          rw [this, hnn]
        refine ⟨hl, fun i y hy => ?_⟩
        have hlt := (List.getElem?_eq_some_iff.1 hy).1
        rw [hl] at hlt
        rw [rep_get z _ i (by rw [hnn]; exact hlt)] at hy
        exact hy
      · cases e
  constructor
  · refine VRs.of_get (by simp [key.1]) (fun i x hx => ?_)
    have hlt : i < n := by have := (List.getElem?_eq_some_iff.1 hx).1; omega
    obtain ⟨v, hv, hr⟩ := hz.get (i % z.length) (key.2 i x hx)
    refine ⟨v, ?_, hr⟩
    rw [Array.getElem?_toList] at hv ⊢
    simp only [Array.getElem?_map, Array.getElem?_range, if_pos hlt, Option.map_some, hk]
    rw [getElem!_def, hv]
  · intro v hv
    simp only [Array.toList_map, List.mem_map] at hv
    obtain ⟨i, _, rfl⟩ := hv
    have hlt : i % zv.size < zv.size := Nat.mod_lt _ (by omega)
    rw [getElem!_pos zv _ hlt]
    exact h1 _ (by rw [← Array.mem_def]; exact Array.getElem_mem hlt)
theorem buildSlice_fresh {t : TypeId} {len : Nat} {parts : List (Nat × AV)} {y : AV} {ah' : AH} (e : buildSliceA P.underlying P.info? ah t len parts = some (y, ah')) :
    ∃ mk cs, y = mk ah.next ∧ ah' = ah.new (.cells cs) ∧ (∀ ah2 : AH, buildSliceA P.underlying P.info? ah2 t len parts = some (mk ah2.next, ah2.new (.cells cs))) ∧
      ∀ (φ : Phi) (w : World) (parts' : Array (Nat × Value)), PRs φ parts parts'.toList → Fresh P φ w (Instr.buildSlice t len parts') mk cs := by
  have e0 := e
  unfold buildSliceA at e
  split at e
  · rename_i el hu
    split at e
    · rename_i n z hn hz
      rw [cnd_eq] at e
      split at e
      · rename_i hb
        have hbb := hb
        simp only [Bool.and_eq_true] at hb
        obtain ⟨⟨⟨b1, b2⟩, b3⟩, b4⟩ := hb
        have b1 := Nat.le_of_ble_eq_true b1
        have b3 := Nat.eq_of_beq_eq_true b3
        have hn0 : n ≠ 0 := by rintro rfl; exact absurd b4 (by decide)
        split at e
        · rename_i c0 hc0
          split at e
          · rename_i c hc
            cases e
            refine ⟨fun b => .slice b 0 len (.known len), c, rfl, rfl, fun ah2 => ?_, fun φ w parts' hp => ?_⟩
            · unfold buildSliceA at e0 ⊢
              simp only [hu, hn, hz, cnd_eq] at e0 ⊢
              rw [if_pos hbb, hc0]
              simp only [hc]
            obtain ⟨zv, hz1, hz2, hz3⟩ := zeroA_run hz φ w
            obtain ⟨r1, r2⟩ := rep_run hz2.cells (hz2.okc b2) (by omega) hc0
            obtain ⟨a2, k1, k2, k3, k4⟩ := fill_run hp r1 r2 hc
            refine ⟨.slice (some ⟨w.heap.size, 0, none⟩) len len, w.alloc (.cells a2 el), _, _, ?_, ⟨rfl, rfl, rfl, rfl⟩, row_or k2 k3 el, fun ψ b _ e => .sliceK 0 len len e⟩
            unfold Instr.buildSlice
            rw [Sem.run_bind, run_underlying hu w, Result.andThen_ok]
            show (do let size ← sizeOf el; _ : Sem Value).run P w = _
            rw [Sem.run_bind, szOf_run hn, Result.andThen_ok]
            by_cases h0 : len * n = 0
            · have k5 : Instr.fill (fun i => some (i * n, n)) (Array.map (fun x => (#[] : Array Value)[x % (#[] : Array Value).size]!) (Array.range (len * n))) parts'.toList = some a2 := by
                have r0 : ∀ f : Nat → Value, (Array.range 0).map f = #[] := fun f => by simp
                rw [h0, r0] at k1 ⊢
                exact k1
              simp only [Sem.run_bind, Sem.run_ite, if_neg (show ¬ len * n > 2 ^ 24 by omega), Sem.run_pure, Result.andThen_ok, if_pos h0, k5, newRow, run_newObj]
              rfl
            · simp only [Sem.run_bind, Sem.run_ite, if_neg (show ¬ len * n > 2 ^ 24 by omega), Sem.run_pure, Result.andThen_ok, if_neg h0, hz1, k1, newRow, run_newObj]
              rfl
          · cases e
        · cases e
      · cases e
    · cases e
  · cases e
theorem makeInt_fresh {t : TypeId} {l c y : AV} {ah' : AH} (e : makeIntA P.underlying P.info? ah t l c = some (y, ah')) :
    ∃ mk cs, y = mk ah.next ∧ ah' = ah.new (.cells cs) ∧ (∀ ah2 : AH, makeIntA P.underlying P.info? ah2 t l c = some (mk ah2.next, ah2.new (.cells cs))) ∧
      ∀ (φ : Phi) (w : World) (l' c' : Value), VR φ l l' → VR φ c c' → Fresh P φ w (Instr.makeSlice t l' c') mk cs := by
  have e0 := e
  unfold makeIntA at e
  split at e
  · rename_i el ln cn hu hln hcn
    split at e
    · rename_i sz by_ z hs hby hz
      rw [cnd_eq] at e
      split at e
      · rename_i hb
        have hbb0 := hb
        simp only [Bool.and_eq_true, decide_eq_true_iff] at hb
        obtain ⟨⟨⟨⟨⟨⟨b1, b2⟩, b3⟩, b4⟩, b5⟩, b6⟩, b7⟩ := hb
        have b4 := Nat.eq_of_beq_eq_true b4
        have hby0 : by_ ≠ 0 := by rintro rfl; exact absurd b5 (by decide)
        have hs0 : sz ≠ 0 := by rintro rfl; exact absurd b6 (by decide)
        split at e
        · rename_i cs hcs
          cases e
          refine ⟨fun b => .slice b 0 ln.toNat (.known cn.toNat), cs, rfl, rfl, fun ah2 => ?_, fun φ w l' c' hl hc => ?_⟩
          · unfold makeIntA at e0 ⊢
            simp only [hu, hln, hcn, hs, hby, hz, cnd_eq] at e0 ⊢
            rw [if_pos hbb0]
            simp only [hcs]
          obtain ⟨k1, rfl⟩ := asI_int hl hln
          obtain ⟨k2, rfl⟩ := asI_int hc hcn
          obtain ⟨zv, hz1, hz2, hz3⟩ := zeroA_run hz φ w
          obtain ⟨it, hit, hzz⟩ := Option.bind_eq_some_iff.1 hz3
          obtain ⟨r1, r2⟩ := rep_run hz2.cells (hz2.okc b7) (by omega) hcs
          have hsz : it.size = sz := by
            have := szOf_info hs
            rw [hit] at this
            simpa using this
          have hbb : it.bytes = by_ := by
            unfold byOf at hby
            rw [hit] at hby
            simpa using hby
          have hc1 : cn ≤ cn * by_ := by
            have h1 : (1 : Int) ≤ by_ := by omega
            have := Int.mul_le_mul_of_nonneg_left h1 (by omega : 0 ≤ cn)
            omega
          have hrun := run_make (P := P) w t el it zv hu hit hzz k1 k2 ln cn b1 b2 (by rw [hbb, Int.mul_comm]; omega) (by omega)
          rw [hsz] at hrun
          exact ⟨_, _, _, _, hrun, ⟨rfl, rfl, rfl, rfl⟩, row_or r1 r2 el, fun ψ b _ e => .sliceK 0 _ _ e⟩
        · cases e
      · cases e
    · cases e
  · cases e
theorem take_range_map (f : Nat → Value) (m n : Nat) (h : m ≤ n) : ((Array.range n).map f).toList.take m = ((Array.range m).map f).toList := by
  simp only [Array.toList_map, Array.toList_range, ← List.map_take]
  rw [List.take_range, Nat.min_eq_left h]
theorem makeTok_fresh {t : TypeId} {b : Nat} {cc lo hi : Int} {y : AV} {ah' : AH} (e : makeTokA P.underlying P.info? ah t b cc lo hi = some (y, ah')) :
    ∃ mk cs, y = mk ah.next ∧ ah' = ah.new (.cells cs) ∧ (∀ ah2 : AH, makeTokA P.underlying P.info? ah2 t b cc lo hi = some (mk ah2.next, ah2.new (.cells cs))) ∧
      ∀ (φ : Phi) (w : World) (k k2 : IntKind) (v : Int) (q zt : Nat), φ b = some (q, zt) → v = cc + zt → lo ≤ v → v ≤ hi → Fresh P φ w (Instr.makeSlice t (.int k v) (.int k2 v)) mk cs := by
  have e0 := e
  unfold makeTokA at e
  split at e
  · rename_i el hu
    split at e
    · rename_i sz by_ z hs hby hz
      rw [cnd_eq] at e
      split at e
      · rename_i hb
        have hbb0 := hb
        simp only [Bool.and_eq_true, decide_eq_true_iff] at hb
        obtain ⟨⟨⟨⟨⟨b1, b3⟩, b4⟩, b5⟩, b6⟩, b7⟩ := hb
        have b4 := Nat.eq_of_beq_eq_true b4
        have hby0 : by_ ≠ 0 := by rintro rfl; exact absurd b5 (by decide)
        have hs0 : sz ≠ 0 := by rintro rfl; exact absurd b6 (by decide)
        split at e
        · rename_i cs hcs
          cases e
          refine ⟨fun b' => .slt b' 0 b cc lo.toNat hi.toNat, cs, rfl, rfl, fun ah2 => ?_, fun φ w k k2 v q zt hp hv h1 h2 => ?_⟩
          · unfold makeTokA at e0 ⊢
            simp only [hu, hs, hby, hz, cnd_eq] at e0 ⊢
            rw [if_pos hbb0]
            simp only [hcs]
          obtain ⟨zv, hz1, hz2, hz3⟩ := zeroA_run hz φ w
          obtain ⟨it, hit, hzz⟩ := Option.bind_eq_some_iff.1 hz3
          obtain ⟨r1, r2⟩ := rep_run hz2.cells (hz2.okc b7) (by omega) hcs
          have hsz : it.size = sz := by
            have := szOf_info hs
            rw [hit] at this
            simpa using this
          have hbb : it.bytes = by_ := by
            unfold byOf at hby
            rw [hit] at hby
            simpa using hby
          have hc1 : v ≤ v * by_ := by
            have h1 : (1 : Int) ≤ by_ := by omega
            have := Int.mul_le_mul_of_nonneg_left h1 (by omega : 0 ≤ v)
            omega
          have hc2 : v * by_ ≤ hi * by_ := Int.mul_le_mul_of_nonneg_right h2 (by omega)
          have hrun := run_make (P := P) w t el it zv hu hit hzz k k2 v v (by omega) (Int.le_refl v) (by rw [hbb, Int.mul_comm]; omega) (by omega)
          rw [hsz] at hrun
          have hle : lo.toNat * sz ≤ v.toNat * sz := Nat.mul_le_mul_right _ (by omega)
          have hlen : cs.length = lo.toNat * sz := by
            rw [r1.length, Array.length_toList, Array.size_map, Array.size_range]
          refine ⟨_, _, v.toNat * sz, .cells (madeCells zv.cells (v.toNat * sz)) el (0, 0), hrun, ⟨rfl, rfl, rfl, rfl⟩, .cells (size_madeCells _ _) (by rw [hlen]; exact hle) ?_ (.inl rfl) ?_, fun ψ b' hle' e => ?_⟩
          · rw [hlen]
            show VRs φ cs (((Array.range (v.toNat * sz)).map (zv.cells[· % zv.cells.size]!)).toList.take _)
            rw [take_range_map _ _ _ hle]
            exact r1
          · intro u hu2
            have hu2 := List.mem_of_mem_take hu2
            have hu2 : u ∈ ((Array.range (v.toNat * sz)).map (zv.cells[· % zv.cells.size]!)).toList := hu2
            rw [Array.toList_map, List.mem_map] at hu2
            obtain ⟨i, _, rfl⟩ := hu2
            have hzs : zv.cells.size = sz := by rw [← Array.length_toList, ← hz2.cells.length, b4]
            have hlt : i % zv.cells.size < zv.cells.size := Nat.mod_lt _ (by omega)
            rw [getElem!_pos zv.cells _ hlt]
            exact hz2.okc b7 _ (by rw [← Array.mem_def]; exact Array.getElem_mem hlt)
          · exact .slt 0 cc lo.toNat hi.toNat v.toNat e (hle' _ _ hp) (by omega) (by omega) (by omega)
        · cases e
      · cases e
    · cases e
  · cases e
theorem makeSlice_fresh {t : TypeId} {l c y : AV} {ah' : AH} (e : makeSliceA P.underlying P.info? ah t l c = some (y, ah')) :
    ∃ mk cs, y = mk ah.next ∧ ah' = ah.new (.cells cs) ∧ (∀ ah2 : AH, makeSliceA P.underlying P.info? ah2 t l c = some (mk ah2.next, ah2.new (.cells cs))) ∧
      ∀ (φ : Phi) (w : World) (l' c' : Value), VR φ l l' → VR φ c c' → Fresh P φ w (Instr.makeSlice t l' c') mk cs := by
  unfold makeSliceA at e ⊢
  split at e
  · rename_i k b cc lo hi k2 b2 cc2 lo2 hi2
    rw [cnd_eq] at e
    split at e
    · rename_i hb
      have hb0 := hb
      rw [Bool.and_eq_true, decide_eq_true_iff] at hb
      obtain ⟨hb, rfl⟩ := hb
      have hb := Nat.eq_of_beq_eq_true hb
      subst hb
      obtain ⟨mk, cs, h1, h2, h3, h4⟩ := makeTok_fresh e
      refine ⟨mk, cs, h1, h2, fun ah2 => by rw [cnd_eq, if_pos hb0]; exact h3 ah2, fun φ w l' c' hl hc => ?_⟩
      cases hl with
      | tok _ _ _ _ _ v p1 p2 p3 p4 => cases hc with
        | tok _ _ _ _ _ v2 q1 q2 q3 q4 =>
          rw [p1] at q1
          cases q1
          have : v = v2 := by simp at p2 q2; omega
          subst this
          exact h4 φ w _ _ v _ _ p1 (by simpa using p2) p3 p4
    · cases e
  · rename_i l c hno
    obtain ⟨mk, cs, h1, h2, h3, h4⟩ := makeInt_fresh e
    exact ⟨mk, cs, h1, h2, h3, h4⟩
end
end Go.Proofs.YtpmlofbpiajkbaaGreatDoor.M2
