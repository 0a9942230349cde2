/- Which texts are names: the program's Right. -/
import Derived.Test.YtmonfmmcgfmeeaaGreatDoorNm4
import Derived.RegionIn
import Derived.IntWalk
namespace Go.Proofs.YtmonfmmcgfmeeaaGreatDoor.Nm
open Go.RowKit Go.Shelf Go.Proofs.YtmonfmmcgfmeeaaGreatDoorW.PrintWords Go.Proofs.YtmonfmmcgfmeeaaGreatDoorRf
attribute [local go_sem] Oper.semAt_some
set_option linter.unusedVariables false
set_option linter.unusedSimpArgs false

def sumR : List ByteArray → Nat
  | [] => 0
  | p :: r => ((runesOf p).length + 1) + sumR r
def rightB (s : ByteArray) : Bool := (pieces s).all partB && (decide ((pieces s).length ≤ 4) && decide (sumR (pieces s) ≤ 25))

theorem sumR_append (a b : List ByteArray) : sumR (a ++ b) = sumR a + sumR b := by
  induction a with
  | nil => simp [sumR]
  | cons p r ih => simp [sumR, ih]; omega

theorem sumR_le (l : List ByteArray) (h : l.all partB = true) : sumR l ≤ 9 * l.length := by
  induction l with
  | nil => simp [sumR]
  | cons p r ih =>
    rw [List.all_cons, Bool.and_eq_true] at h
    have h1 : (runesOf p).length ≤ 8 := by have := h.1; unfold partB at this; simp at this; exact this.2.2
    have := ih h.2
    simp only [sumR, List.length_cons]
    omega
theorem pieces_le (s : ByteArray) : (pieces s).length ≤ s.size + 1 := by
  unfold pieces
  have h1 := Lib.splitB_length_le dot 0 (Lib.countB s dot) s
  have h2 := Lib.countB_le dot (by decide) s.size s (Nat.le_refl _)
  omega

theorem splitSeq_any (s : ByteArray) (w : World) : Calls Tryz.prog 64 #[.string s, .string dot, .int .i64 0] w fun e w' =>
    e = .returned (.func (.func 80) #[] #[.pointer (some ⟨w.heap.size + 1, 0, none⟩), .pointer (some ⟨w.heap.size, 0, none⟩), .pointer (some ⟨w.heap.size + 1 + 1, 0, none⟩)]) ∧
    w' = ((w.alloc (.cells #[.string s] 9)).alloc (.cells #[.string dot] 9)).alloc (.cells #[.int .i64 0] 3) := by
  go_enter Tryz.func64, Tryz.ntmps64
  go_wp2
  go_ret
  exact ⟨rfl, rfl⟩

theorem seq_any (s : ByteArray) (w : World) : Calls Tryz.prog 48 #[.string s, .string dot] w fun e w' =>
    e = .returned (.func (.func 80) #[] #[.pointer (some ⟨w.heap.size + 1, 0, none⟩), .pointer (some ⟨w.heap.size, 0, none⟩), .pointer (some ⟨w.heap.size + 1 + 1, 0, none⟩)]) ∧
    w' = ((w.alloc (.cells #[.string s] 9)).alloc (.cells #[.string dot] 9)).alloc (.cells #[.int .i64 0] 3) := by
  go_enter Tryz.func48, Tryz.ntmps48
  go_wp2_with (go_at_call 64; refine (splitSeq_any s w).mono ?_; rintro e w' ⟨rfl, rfl⟩)
  go_ret
  exact ⟨rfl, rfl⟩

/-- What holds between two rounds. -/
structure RI (w : World) (pre : List Sm) (W : World) : Prop where
  all : (pre.map (·.1)).all partB = true
  r : W.heap[w.heap.size]? = some (.cells #[.bool false] 4 (0, 0))
  p : W.heap[w.heap.size + 1]? = some (.cells #[.int .i64 (pre.length : Nat)] 3 (0, 0))
  n : W.heap[w.heap.size + 1 + 1]? = some (.cells #[.int .i64 (sumR (pre.map (·.1)) : Nat)] 3 (0, 0))
  bel : Below w.heap.size w W
  len : w.heap.size + 6 ≤ W.heap.size
structure RV (w : World) (pre : List Sm) (W : World) : Prop where
  r : W.heap[w.heap.size]? = some (.cells #[.bool false] 4 (0, 0))
  p : W.heap[w.heap.size + 1]? = some (.cells #[.int .i64 ((pre.length + 1 : Nat) : Int)] 3 (0, 0))
  n : W.heap[w.heap.size + 1 + 1]? = some (.cells #[.int .i64 (sumR (pre.map (·.1)) : Nat)] 3 (0, 0))
  bel : Below w.heap.size w W
  len : w.heap.size + 6 ≤ W.heap.size
structure RX (w : World) (c : Code) (pre : List Sm) (W : World) : Prop where
  ret : c = .ret
  all : (pre.map (·.1)).all partB = false
  r : W.heap[w.heap.size]? = some (.cells #[.bool false] 4 (0, 0))
  bel : Below w.heap.size w W

theorem grown_of_below {W W' : World} (h : Below W.heap.size W W') : W.grownBy W' none := ⟨h.os, h.tape, h.output, h.size, fun k hk _ => h.block k hk⟩
theorem below_of_grown {w W W' : World} {row : Option Nat} (hb : Below w.heap.size w W) (hg : W.grownBy W' row) (hr : ∀ r, row = some r → w.heap.size ≤ r) : Below w.heap.size w W' := hb.grown hg hb.size hr

theorem ri_ab (w : World) : AbT (fun r => r = w.heap.size + 3) (w.heap.size + 6) (fun (pre : List Sm) W => RI w pre W) := by
  rintro pre W W' row h hg hr
  have keep : ∀ k, k < w.heap.size + 3 → W'.heap[k]? = W.heap[k]? := fun k hk => hg.block k (by have := h.len; omega) (fun e => by rcases hr k e.symm with h1 | ⟨h1, _⟩ <;> omega)
  exact ⟨h.all, (keep _ (by omega)).trans h.r, (keep _ (by omega)).trans h.p, (keep _ (by omega)).trans h.n, below_of_grown h.bel hg (fun r e => by rcases hr r e with h1 | ⟨h1, _⟩ <;> omega), Nat.le_trans h.len hg.size⟩
theorem rx_ab (w : World) (c : Code) : AbT (fun r => r = w.heap.size + 3) (w.heap.size + 6) (fun (pre : List Sm) W => RX w c pre W) := by
  rintro pre W W' row h hg hr
  refine ⟨h.ret, h.all, (hg.block _ (blk_lt h.r) (fun e => ?_)).trans h.r, below_of_grown h.bel hg (fun r e => by rcases hr r e with h1 | ⟨h1, _⟩ <;> omega)⟩
  rcases hr _ e.symm with h1 | ⟨h1, _⟩ <;> omega

/-- The end: the result's cell is set, the block for deferred calls is taken. -/
theorem closing0 (w W : World) (D : Nat) (s : ByteArray) (b : Bool) (hb : Below w.heap.size w W) (hr : W.heap[w.heap.size]? = some (.cells #[.bool b] 4 (0, 0))) (hD : w.heap.size ≤ D) (hK : W.heap[D]? = some (.deferred (some []))) (e : b = rightB s) (tmps : Array Value) (ht : tmps[2]? = some (.pointer (some ⟨w.heap.size, 0, none⟩))) (x : Exit) (hx : x = .normal ∨ x = .ret) :
    bodyPostM Fence.wide 3 Tryz.prog Tryz.f29 (fun e w' => e = .returned (.bool (rightB s)) ∧ Below w.heap.size w w') x { tmps := tmps, defers := [{ target := Target.collected D, args := #[] }] } W := by
  have hc0 : W.cell? ⟨w.heap.size, 0, none⟩ = some (.bool b) := (blk_cell hr 0).trans rfl
  have hc5 := cell_kept hc0 (grownBy_putObj' W D (.deferred none)) (fun r e => by cases e; exact ⟨_, hK, rfl⟩)
  have hB := hb.trans (belowK_b (w := w) (Nat.le_refl _) W D _ (.deferred none) hD hK rfl rfl)
  have ht2 : tmps[2]?.getD undef = .pointer (some ⟨w.heap.size, 0, none⟩) := by simp [ht]
  rcases hx with rfl | rfl
  all_goals
    refine ⟨by simp, .inl ⟨_, _, rfl, run_takeDeferred hK, ?_⟩⟩
    refine ⟨.bool b, ?_, by rw [e], hB⟩
    simp [results, Tryz.f29, go_sem, hc5, ht2]

theorem closing (w W : World) (D : Nat) (s : ByteArray) (b : Bool) (hb : Below w.heap.size w W) (hr : W.heap[w.heap.size]? = some (.cells #[.bool false] 4 (0, 0))) (hD : w.heap.size ≤ D) (hK : W.heap[D]? = some (.deferred (some []))) (e : b = rightB s) (tmps : Array Value) (ht : tmps[2]? = some (.pointer (some ⟨w.heap.size, 0, none⟩))) :
    bodyPostM Fence.wide 3 Tryz.prog Tryz.f29 (fun e w' => e = .returned (.bool (rightB s)) ∧ Below w.heap.size w w') .normal { tmps := tmps, defers := [{ target := Target.collected D, args := #[] }] } (W.setCell ⟨w.heap.size, 0, none⟩ (.bool b)) :=
  closing0 w _ D s b (hb.setCell (p := ⟨w.heap.size, 0, none⟩) (Nat.le_refl _) _) (blk_put hr 0 _ rfl) hD ((KeepsOthers.setCell W ⟨w.heap.size, 0, none⟩ (.bool b)).same D _ hK rfl) e tmps ht _ (.inl rfl)

set_option maxHeartbeats 4000000 in
set_option maxRecDepth 100000 in
theorem right_any (s : ByteArray) (w : World) (hs : s.size ≤ 140737488351232) (hT : Lib.Utf8Tabs 0 1 w) :
    Calls Tryz.prog 29 #[.string s] w fun e w' => e = .returned (.bool (rightB s)) ∧ Below w.heap.size w w' := by
  refine (callsIn_wide (n := 3)).1 ?_
  refine callsIn_of_wp_marks Tryz.func29 rfl trivial ?_ rfl
  simp only [Tryz.ntmps29, List.size_toArray, List.length_cons, List.length_nil, Nat.reduceAdd, Nat.reduceSub, Array.replicate_succ, Array.replicate_zero, List.push_toArray, List.append_toArray, List.nil_append, List.cons_append]
  have HSeq := Aside0.mk (fun W => (callsIn_wide (n := 3 - 1)).2 (seq_any s W))
  unfold dot at HSeq
  gi_wp2_with (refine ⟨trivial, ?_⟩; gi_at_call 48; refine (HSeq.out _).mono ?_; rintro e w' ⟨rfl, rfl⟩)
  obtain ⟨W0, hW0⟩ : ∃ W0, ((((((w.alloc (Obj.cells #[Value.bool false] 4)).alloc (Obj.cells #[Value.int IntKind.i64 0] 3)).alloc (Obj.cells #[Value.int IntKind.i64 0] 3)).alloc (Obj.cells #[Value.string s] 9)).alloc (Obj.cells #[Value.string dot] 9)).alloc (Obj.cells #[Value.int IntKind.i64 0] 3)) = W0 := ⟨_, rfl⟩
  have hW0' := hW0
  unfold dot at hW0'
  rw [hW0']
  clear hW0'
  have hsz : W0.heap.size = w.heap.size + 6 := by rw [← hW0]; simp
  have hb0 : Below w.heap.size w W0 := by rw [← hW0]; exact ((((((Below.refl _ w).alloc (by simp) _).alloc (by simp) _).alloc (by simp; omega) _).alloc (by simp; omega) _).alloc (by simp; omega) _).alloc (by simp; omega) _
  have at0 : W0.heap[w.heap.size]? = some (.cells #[.bool false] 4 (0, 0)) := by rw [← hW0]; exact blk_alloc (blk_alloc (blk_alloc (blk_alloc (blk_alloc (blk_new w _) _) _) _) _) _
  have at1 : W0.heap[w.heap.size + 1]? = some (.cells #[.int .i64 0] 3 (0, 0)) := by rw [← hW0]; exact blk_alloc (blk_alloc (blk_alloc (blk_alloc (by simpa using blk_new (w.alloc _) (Obj.cells #[Value.int IntKind.i64 0] 3)) _) _) _) _
  have at2 : W0.heap[w.heap.size + 1 + 1]? = some (.cells #[.int .i64 0] 3 (0, 0)) := by rw [← hW0]; exact blk_alloc (blk_alloc (blk_alloc (by simpa using blk_new ((w.alloc _).alloc _) (Obj.cells #[Value.int IntKind.i64 0] 3)) _) _) _
  have at3 : W0.heap[w.heap.size + 3]? = some (.cells #[.string s] 9 (0, 0)) := by rw [← hW0]; exact blk_alloc (blk_alloc (by simpa using blk_new (((w.alloc _).alloc _).alloc _) (Obj.cells #[Value.string s] 9)) _) _
  have at4 : W0.heap[w.heap.size + 4]? = some (.cells #[.string dot] 9 (0, 0)) := by rw [← hW0]; exact blk_alloc (by simpa using blk_new ((((w.alloc _).alloc _).alloc _).alloc _) (Obj.cells #[Value.string dot] 9)) _
  have at5 : W0.heap[w.heap.size + 5]? = some (.cells #[.int .i64 0] 3 (0, 0)) := by rw [← hW0]; simpa using blk_new (((((w.alloc _).alloc _).alloc _).alloc _).alloc _) (Obj.cells #[Value.int IntKind.i64 0] 3)
  clear hW0
  refine wpIn_rangeFunc_T (T := fun r => r = w.heap.size + 3) (Kp := Keep3 (w.heap.size + 4) (w.heap.size + 3) (w.heap.size + 5)) rfl (by omega) (gf := 80) (lb := #[.pointer (some ⟨w.heap.size + 4, 0, none⟩), .pointer (some ⟨w.heap.size + 3, 0, none⟩), .pointer (some ⟨w.heap.size + 5, 0, none⟩)]) rfl trivial (enters_of Tryz.func80 (by kernel_rfl) rfl)
    (fun r hr => by omega) (split_yields s (w.heap.size + 4) (w.heap.size + 3) (w.heap.size + 5) W0 hs (3 - 1) (by omega) (by omega) (by omega) at4 at3 at5)
    (fun h k => ⟨Nat.le_trans h.1 k.1, fun i hi => (k.2 i hi).trans (h.2 i hi)⟩) (fun W l o o' hl ho _ _ => ⟨by simp, fun k hk => World.putObj_heap_other (by omega)⟩) (Below.refl _ _) (fun _ => rfl)
    (fun pre W => RI w pre W) (fun c pre W => RX w c pre W) (by rw [hsz]; exact ri_ab w) (fun c => by rw [hsz]; exact rx_ab w c)
    ⟨rfl, at0, at1, at2, hb0, by omega⟩
    (fun x : Sm => { tmps := #[.string s, undef, .pointer (some ⟨w.heap.size, 0, none⟩), .pointer (some ⟨w.heap.size + 1, 0, none⟩), .pointer (some ⟨w.heap.size + 1 + 1, 0, none⟩), .string x.1, .string s, .func (.func 80) #[] #[.pointer (some ⟨w.heap.size + 1 + 1 + 1 + 1, 0, none⟩), .pointer (some ⟨w.heap.size + 1 + 1 + 1, 0, none⟩), .pointer (some ⟨w.heap.size + 1 + 1 + 1 + 1 + 1, 0, none⟩)], .string x.1, undef, undef, undef, undef, undef, undef, undef, undef, undef, undef, undef, undef, undef, undef, undef, undef, undef], defers := [] }) ?assign ?body ?done ?stop
  case assign =>
    intro l x W K hK
    gi_wp2
    exact hK
  case body =>
    rintro l pre x W hI hlen
    have HI := Aside0.mk hI
    have k0 : W.cell? ⟨w.heap.size, 0, none⟩ = some (.bool false) := (blk_cell hI.r 0).trans rfl
    have f0 := blk_frozen hI.r 0
    have hpl : pre.length ≤ 140737488351233 := by have := pieces_le s; omega
    have HPart := Aside0.mk (fun V => CallsIn.inRound (F := Fence.wide) (n := 3 - 1 - 1 - 1) l (callsIn_wide.2 (part_any x.1 V x.2)))
    cases hp : partB x.1
    · rw [hp] at HPart
      have HP := Aside0.mk hp
      clear hp hI
      gi_wp2_with (refine ⟨trivial, ?_⟩; gi_at_call 49; refine (HPart.out _).mono ?_; rintro e w' ⟨rfl, hb'⟩; have HB' := Aside0.mk hb'; have k1 := ((blk_cell (blk_below HI.out.r hb') 0).trans rfl : w'.cell? ⟨w.heap.size, 0, none⟩ = some (.bool false)); have f1 := blk_frozen (blk_below HI.out.r hb') 0; clear hb')
      refine ⟨(KeepsOthers.of_grownBy (grown_of_below HB'.out) (fun _ _ e => by cases e)).trans (KeepsOthers.setCell _ _ _), ⟨rfl, by rw [List.map_append, List.all_append]; simp [HP.out], blk_put (blk_below HI.out.r HB'.out) 0 _ rfl, ?_⟩⟩
      exact (below_step HI.out.bel HB'.out).setCell (p := ⟨w.heap.size, 0, none⟩) (Nat.le_refl _) _
    · have HCount := Aside0.mk (fun V (hV : Below w.heap.size w V) => CallsIn.inRound (F := Fence.wide) (n := 3 - 1 - 1 - 1) l (callsIn_wide.2 (count_part x.1 V x.2 hp (Utf8Tabs_below hT hV))))
      rw [hp] at HPart
      have HP := Aside0.mk hp
      obtain ⟨c, hc⟩ : ∃ c, c = (runesOf x.1).length := ⟨_, rfl⟩
      have hc8 : c ≤ 8 := by rw [hc]; unfold partB at hp; simp at hp; exact hp.2.2
      rw [← hc] at HCount
      have HC := Aside0.mk hc
      have hsum : sumR (pre.map (·.1)) ≤ 9 * pre.length := by have := sumR_le _ hI.all; rwa [List.length_map] at this
      obtain ⟨sm, hsm⟩ : ∃ sm, sm = sumR (pre.map (·.1)) := ⟨_, rfl⟩
      have HSM := Aside0.mk hsm
      rw [← hsm] at hsum
      clear hp hI hc hsm
      have hmx : Tryz.prog.follows .mixedOrders = true := by kernel_rfl
      gi_wp2_with (refine ⟨trivial, ?_⟩; gi_at_call 49; refine (HPart.out _).mono ?_; rintro e w' ⟨rfl, hb'⟩; have HB' := Aside0.mk hb'; have k1 : w'.cell? ⟨w.heap.size + 1, 0, none⟩ = some (.int .i64 (pre.length : Nat)) := (blk_cell (blk_below HI.out.p hb') 0).trans rfl; have f1 := blk_frozen (blk_below HI.out.p hb') 0; have k2 : w'.cell? ⟨w.heap.size + 1 + 1, 0, none⟩ = some (.int .i64 (sm : Nat)) := (blk_cell (blk_below HI.out.n hb') 0).trans (by rw [HSM.out]; rfl); have f2 := blk_frozen (blk_below HI.out.n hb') 0; clear hb')
      obtain ⟨V, hV⟩ : ∃ V, w'.setCell ⟨w.heap.size + 1, 0, none⟩ (.int .i64 ((pre.length : Nat) + 1)) = V := ⟨_, rfl⟩
      rw [hV]
      have HI2 := Aside0.mk (show RV w pre V from by
        rw [← hV]
        exact ⟨blk_far (blk_below HI.out.r HB'.out) (by simp) _, by simpa using blk_put (blk_below HI.out.p HB'.out) 0 (.int .i64 ((pre.length : Nat) + 1)) rfl, blk_far (blk_below HI.out.n HB'.out) (by simp) _, (below_step HI.out.bel HB'.out).setCell (p := ⟨w.heap.size + 1, 0, none⟩) (by simp) _, by have := HI.out.len; have := HB'.out.size; simp [World.setCell]; omega⟩)
      have HK := Aside0.mk (show KeepsOthers W V from by rw [← hV]; exact (KeepsOthers.of_grownBy (grown_of_below HB'.out) (fun _ _ e => by cases e)).trans (KeepsOthers.setCell _ _ _))
      have HF := Aside0.mk (show ∀ k, w.heap.size + 3 ≤ k → k < W.heap.size → V.heap[k]? = W.heap[k]? from by
        rw [← hV]
        intro k h1 h2
        rw [Below.heap_setCell _ _ _ _ (by simp; omega)]
        exact HB'.out.block k h2)
      have m2 : V.cell? ⟨w.heap.size + 1 + 1, 0, none⟩ = some (.int .i64 (sm : Nat)) := (blk_cell HI2.out.n 0).trans (by rw [HSM.out]; rfl)
      clear k1 k2 f1 f2 hV HB'
      gi_region_with_o (refine ⟨trivial, ?_⟩; gi_at_call 50; refine (HCount.out _ HI2.out.bel.drew).mono ?_; rintro e V2 ⟨rfl, hb2⟩; have HB2 := Aside0.mk hb2; have n2 : V2.cell? ⟨w.heap.size + 1 + 1, 0, none⟩ = some (.int .i64 (sm : Nat)) := (blk_cell (blk_below (blk_drew HI2.out.n) hb2) 0).trans (by rw [HSM.out]; rfl); have nf := blk_frozen (blk_below (blk_drew HI2.out.n) hb2) 0; clear hb2)
      all_goals gi_wp2
      all_goals
        have hw : IntKind.i64.wrap ((sm : Int) + IntKind.i64.wrap ((c : Int) + 1)) = ((sm + (c + 1) : Nat) : Int) := by
          rw [IntWalk.i64_in ((c : Int) + 1) (by omega), IntWalk.i64_in _ (by omega)]; omega
        rw [hw]
        refine ⟨HK.out.trans (((KeepsOthers.drew _).trans (KeepsOthers.of_grownBy (grown_of_below HB2.out) (fun _ _ e => by cases e))).trans (KeepsOthers.setCell _ _ _)), ⟨?_, fun k hk => ?_⟩, ?_⟩
        · have h1 := HK.out.size
          have h2 := HB2.out.size
          show W.heap.size ≤ (V2.setCell _ _).heap.size
          simp [World.setCell] at h2 ⊢
          omega
        · have hlt : k < W.heap.size := by have := HI.out.len; omega
          rw [Below.heap_setCell _ _ _ _ (by simp; omega)]
          have h1 := HK.out.size
          exact ((HB2.out.block k (by simp; omega)).trans rfl).trans (HF.out k (by omega) hlt)
        · refine ⟨by rw [List.map_append, List.all_append, HI.out.all]; simp [HP.out], blk_far (blk_below (blk_drew HI2.out.r) HB2.out) (by simp; omega) _, ?_, ?_, ?_, ?_⟩
          · rw [List.length_append]; exact blk_far (blk_below (blk_drew HI2.out.p) HB2.out) (by simp) _
          · rw [List.map_append, sumR_append, ← HSM.out]
            have := blk_put (blk_below (blk_drew HI2.out.n) HB2.out) 0 (.int .i64 ((sm + (c + 1) : Nat) : Int)) rfl
            simpa [sumR, ← HC.out] using this
          · exact (below_step HI2.out.bel.drew HB2.out).setCell (p := ⟨w.heap.size + 1 + 1, 0, none⟩) (by simp; omega) _
          · have h1 := HI2.out.len
            have h2 := HB2.out.size
            simp [World.setCell] at h2 ⊢
            omega
  case done =>
    rintro D ys W hD hys hI hK
    have m0 : W.cell? ⟨w.heap.size, 0, none⟩ = some (.bool false) := (blk_cell hI.r 0).trans rfl
    have m1 : W.cell? ⟨w.heap.size + 1, 0, none⟩ = some (.int .i64 (ys.length : Nat)) := (blk_cell hI.p 0).trans rfl
    have m2 : W.cell? ⟨w.heap.size + 1 + 1, 0, none⟩ = some (.int .i64 (sumR (ys.map (·.1)) : Nat)) := (blk_cell hI.n 0).trans rfl
    have mf := blk_frozen hI.r 0
    have hl : ys.length ≤ s.size + 1 := by have := pieces_le s; rw [← hys, List.length_map] at this; exact this
    have hsm : sumR (ys.map (·.1)) ≤ 9 * ys.length := by have := sumR_le _ hI.all; rwa [List.length_map] at this
    obtain ⟨sm, esm⟩ : ∃ sm, sm = sumR (ys.map (·.1)) := ⟨_, rfl⟩
    rw [← esm] at m2 hsm
    have hR : rightB s = (decide (ys.length ≤ 4) && decide (sm ≤ 25)) := by
      unfold rightB; rw [← hys, hI.all, ← esm, List.length_map]; rfl
    have HR := Aside0.mk hR
    have HI := Aside0.mk hI
    have HK := Aside0.mk hK
    clear hI hK hR hys esm
    gi_wp2
    all_goals
      refine closing w W D s _ HI.out.bel HI.out.r (by omega) HK.out (by rw [HR.out]; rw [Bool.eq_iff_iff]; simp; try omega) _ rfl
  case stop =>
    rintro D c pre W hD hpre hX hK
    obtain rfl := hX.ret
    have hR : false = rightB s := by
      unfold rightB
      obtain ⟨r, hr⟩ := hpre
      rw [← hr, List.all_append, hX.all]; rfl
    have HR := Aside0.mk hR
    have HX := Aside0.mk hX
    have HK := Aside0.mk hK
    clear hX hK hR
    gi_wp2
    exact closing0 w W D s _ HX.out.bel HX.out.r (by omega) HK.out HR.out _ rfl _ (.inr rfl)
end Go.Proofs.YtmonfmmcgfmeeaaGreatDoor.Nm
