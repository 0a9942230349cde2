/- strings.SplitSeq at a point: the iterator's contract. -/
import Derived.Test.YtmonfmmcgfmeeaaGreatDoorNm3
import Derived.Test.YtmonfmmcgfmeeaaGreatDoorRf
import Derived.Lib.SplitLaws
import Derived.RangeFuncNested
import Derived.RangeFuncBound
import Derived.RangeFuncCalls
import Derived.RangeFuncLeaves
import Derived.Shelf.Abstract
import Derived.Shelf.RegionOpen
import Derived.OwnWalkIn
import Derived.TacticsInMore
import Derived.LoopNIn
import Derived.LoopIn
namespace Go.Proofs.YtmonfmmcgfmeeaaGreatDoor.Nm
open Go.RowKit Go.Shelf Go.Proofs.YtmonfmmcgfmeeaaGreatDoorW.PrintWords Go.Proofs.YtmonfmmcgfmeeaaGreatDoorRf
attribute [local go_sem] Oper.semAt_some
set_option linter.unusedVariables false
set_option linter.unusedSimpArgs false

def dot : ByteArray := ⟨#[46]⟩
/-- The pieces between points. -/
def pieces (s : ByteArray) : List ByteArray := Lib.splitB dot 0 (Lib.countB s dot) s

/-- A text that a process can hold. -/
abbrev Sm := { x : ByteArray // x.size ≤ 140737488351232 }

/-- What a round keeps for the iterator. -/
def Keep3 (a b c : Nat) (A B : World) : Prop := (A.heap.size ≤ B.heap.size) ∧ ∀ k, k = a ∨ k = b ∨ k = c → B.heap[k]? = A.heap[k]?

theorem dot_size : dot.size = 1 := rfl
theorem pieces_miss {t : ByteArray} (h : Lib.indexByte t.data.toList 46 = -1) : pieces t = [t] := by
  have h1 : Lib.indexB t dot = -1 := by rw [← h, ← Lib.index_one]; rfl
  exact Lib.splitB_miss _ _ _ _ h1
theorem pieces_hit {t : ByteArray} {i : Nat} (h : Lib.indexByte t.data.toList 46 = i) : pieces t = t.extract 0 i :: pieces (t.extract (i + 1) t.size) ∧ i + 1 ≤ t.size := by
  have h1 : Lib.indexB t dot = i := by rw [← h, ← Lib.index_one]; rfl
  refine ⟨?_, ?_⟩
  · unfold pieces
    rw [Lib.countB_hit t dot i (by decide) h1, Nat.add_comm 1, Lib.splitB_hit dot 0 _ t i h1]
    rfl
  · rcases Lib.indexB_cases t dot with h2 | ⟨j, h2, h3⟩
    · rw [h1] at h2; omega
    · rw [h1] at h2
      have : dot.size = 1 := rfl
      omega
theorem index_cases (t : ByteArray) : Lib.indexByte t.data.toList 46 = -1 ∨ ∃ i : Nat, Lib.indexByte t.data.toList 46 = i := by
  have := Lib.indexByte_ge t.data.toList 46
  rcases Int.lt_or_le (Lib.indexByte t.data.toList 46) 0 with h | h
  · exact .inl (by omega)
  · exact .inr ⟨(Lib.indexByte t.data.toList 46).toNat, by omega⟩
def leftAt (b : Nat) (w : World) : Nat := match w.cell? ⟨b, 0, none⟩ with | some (.string t) => t.size | _ => 0
theorem leftAt_eq {b : Nat} {w : World} {t : ByteArray} (h : w.cell? ⟨b, 0, none⟩ = some (.string t)) : leftAt b w = t.size := by simp [leftAt, h]

set_option maxHeartbeats 4000000 in
set_option maxRecDepth 100000 in
theorem split_yields (s : ByteArray) (Bp Bs Bv : Nat) (w0 : World) (hs : s.size ≤ 140737488351232) (n : Nat) (hn : 1 ≤ n) (hps : Bp ≠ Bs) (hvs : Bv ≠ Bs)
    (cp : w0.heap[Bp]? = some (.cells #[.string dot] 9 (0, 0))) (cs : w0.heap[Bs]? = some (.cells #[.string s] 9 (0, 0))) (cv : w0.heap[Bv]? = some (.cells #[.int .i64 0] 3 (0, 0))) :
    SeqT Fence.wide n Tryz.prog 80 #[.pointer (some ⟨Bp, 0, none⟩), .pointer (some ⟨Bs, 0, none⟩), .pointer (some ⟨Bv, 0, none⟩)] (fun x : Sm => #[.string x.1]) (fun r => r = Bs) (Keep3 Bp Bs Bv) (fun xs => xs.map (·.1) = pieces s) (fun pre => pre.map (·.1) <+: pieces s) (pieces s).length w0 := fun l J Jx W hW hJ hJx hY h0 => by
  refine callsIn_of_wp Tryz.func80 rfl trivial ?_ rfl
  simp only [Tryz.ntmps80, List.size_toArray, List.length_cons, List.length_nil, Nat.reduceAdd, Nat.reduceSub, Array.replicate_succ, Array.replicate_zero, List.push_toArray, List.append_toArray, List.nil_append, List.cons_append]
  have c1 := (blk_cell (blk_below cp hW) 0)
  have c2 := (blk_cell (blk_below cs hW) 0)
  have c3 := (blk_cell (blk_below cv hW) 0)
  have k1 : W.cell? ⟨Bp, 0, none⟩ = some (.string dot) := c1.trans rfl
  have k2 : W.cell? ⟨Bs, 0, none⟩ = some (.string s) := c2.trans rfl
  have k3 : W.cell? ⟨Bv, 0, none⟩ = some (.int .i64 0) := c3.trans rfl
  clear c1 c2 c3
  unfold dot at k1
  gi_wp2
  gi_loopw [7] (fun _ wr => ∃ (pre : List Sm) (t : ByteArray), Aside0 (pieces s = pre.map (·.1) ++ pieces t) ∧ Aside0 (t.size ≤ s.size) ∧ Aside0 (wr.heap[Bp]? = some (.cells #[.string dot] 9 (0, 0))) ∧ Aside0 (wr.heap[Bs]? = some (.cells #[.string t] 9 (0, 0))) ∧ Aside0 (wr.heap[Bv]? = some (.cells #[.int .i64 0] 3 (0, 0))) ∧ Aside0 (J pre wr)) (fun _ wr => leftAt Bs wr)
  case atStart => exact ⟨[], s, ⟨rfl⟩, ⟨Nat.le_refl _⟩, ⟨blk_below cp hW⟩, ⟨blk_below cs hW⟩, ⟨blk_below cv hW⟩, ⟨h0⟩⟩
  case round =>
    obtain ⟨pre, t, HP, HS, HBp, HBs, HBv, HJ⟩ := hrel
    clear k1 k2 k3
    have k1 : wr.cell? ⟨Bp, 0, none⟩ = some (.string ⟨#[46]⟩) := (blk_cell HBp.out 0).trans rfl
    have k2 : wr.cell? ⟨Bs, 0, none⟩ = some (.string t) := (blk_cell HBs.out 0).trans rfl
    have k3 : wr.cell? ⟨Bv, 0, none⟩ = some (.int .i64 0) := (blk_cell HBv.out 0).trans rfl
    have hts := HS.out
    rcases index_cases t with hi | ⟨i, hi⟩
    · have HI := Aside0.mk (show ∀ W, CallsIn Fence.wide (n - 1) Tryz.prog 82 #[.string t, .string ⟨#[46]⟩] W fun e w' => e = .returned (.int .i64 (-1)) ∧ W = w' from fun W => by rw [← hi]; exact (callsIn_wide.2 (Any.strings_Index_one Tryz.lays143 t 46 W)).mono fun _ _ ⟨h1, h2⟩ => ⟨h1, h2.symm⟩)
      have HT := Aside0.mk hi
      clear hi
      obtain ⟨fn, tmps, assign, body, hy, hR⟩ := hY pre ⟨t, by omega⟩ wr HJ.out (by rw [HP.out, pieces_miss HT.out]; simp)
      dsimp only at hy
      have HR := Aside0.mk hR
      clear hR
      gi_wp2_with (refine ⟨trivial, ?_⟩; gi_at_call 82; refine (HI.out _).mono ?_; rintro e w' ⟨rfl, rfl⟩)
      refine HR.out.mono ?_
      rintro e W2 (⟨rfl, hJ2, _⟩ | ⟨rfl, hx2⟩)
      · have HJ2 := Aside0.mk hJ2
        clear hJ2
        gi_wp2
        go_end0
        exact ⟨⟨_, rfl⟩, .inl ⟨_, by rw [HP.out, pieces_miss HT.out]; simp, HJ2.out⟩⟩
      · have HX2 := Aside0.mk hx2
        clear hx2
        gi_wp2
        go_end0
        exact ⟨⟨_, rfl⟩, .inr ⟨_, by rw [HP.out, pieces_miss HT.out]; simp, HX2.out⟩⟩
    · obtain ⟨hpc, hisz⟩ := pieces_hit hi
      have HI := Aside0.mk (show ∀ W, CallsIn Fence.wide (n - 1) Tryz.prog 82 #[.string t, .string ⟨#[46]⟩] W fun e w' => e = .returned (.int .i64 (i : Int)) ∧ W = w' from fun W => by rw [← hi]; exact (callsIn_wide.2 (Any.strings_Index_one Tryz.lays143 t 46 W)).mono fun _ _ ⟨h1, h2⟩ => ⟨h1, h2.symm⟩)
      have HT := Aside0.mk hpc
      clear hi hpc
      obtain ⟨x, hx⟩ : ∃ x : Sm, x.1 = t.extract 0 i := ⟨⟨t.extract 0 i, by rw [ByteArray.size_extract]; omega⟩, rfl⟩
      obtain ⟨t', ht'⟩ : ∃ t', t' = t.extract (i + 1) t.size := ⟨_, rfl⟩
      have ht's : t'.size + (i + 1) = t.size := by rw [ht', ByteArray.size_extract]; omega
      have HP2 := Aside0.mk (show pieces s = (pre ++ [x]).map (·.1) ++ pieces t' by rw [HP.out, HT.out, ht']; simp [hx])
      obtain ⟨fn, tmps, assign, body, hy, hR⟩ := hY pre x wr HJ.out (by rw [HP2.out]; simp)
      rw [hx] at hy
      have HR := Aside0.mk hR
      clear hR
      have HXX := Aside0.mk hx
      have HTT := Aside0.mk ht'
      have HSZ := Aside0.mk ht's
      clear hx ht' ht's
      gi_wp2_with (refine ⟨trivial, ?_⟩; gi_at_call 82; refine (HI.out _).mono ?_; rintro e w' ⟨rfl, rfl⟩)
      refine HR.out.mono ?_
      rintro e W2 (⟨rfl, hJ2, hk2⟩ | ⟨rfl, hx2⟩)
      · have HJ2 := Aside0.mk hJ2
        clear hJ2
        have B1 := Aside0.mk ((hk2.2 Bp (.inl rfl)).trans HBp.out)
        have B2 := Aside0.mk ((hk2.2 Bs (.inr (.inl rfl))).trans HBs.out)
        have B3 := Aside0.mk ((hk2.2 Bv (.inr (.inr rfl))).trans HBv.out)
        clear hk2
        have k1 : W2.cell? ⟨Bp, 0, none⟩ = some (.string ⟨#[46]⟩) := (blk_cell B1.out 0).trans rfl
        have k2 : W2.cell? ⟨Bs, 0, none⟩ = some (.string t) := (blk_cell B2.out 0).trans rfl
        have k4 := blk_frozen B2.out 0
        gi_wp2
        go_roundw
        case rel =>
          rw [← HTT.out]
          refine ⟨pre ++ [x], t', HP2, ⟨by have := HSZ.out; have := HS.out; omega⟩, ⟨blk_far B1.out hps _⟩, ⟨blk_put B2.out 0 _ rfl⟩, ⟨blk_far B3.out hvs _⟩, ⟨?_⟩⟩
          exact hJ _ W2 _ (some Bs) HJ2.out (grownBy_setCell' W2 Bs _) (fun r e => by cases e; exact .inl rfl)
        case measure =>
          rw [← HTT.out, leftAt_eq ((blk_cell (blk_put B2.out 0 (.string t') rfl) 0).trans rfl), leftAt_eq ((blk_cell HBs.out 0).trans rfl)]
          have := HSZ.out; omega
      · have HX2 := Aside0.mk hx2
        clear hx2
        gi_wp2
        refine bodyPost_ret (results_none rfl _ _ _) rfl ?_
        exact ⟨⟨_, rfl⟩, .inr ⟨pre ++ [x], ⟨pieces t', HP2.out.symm⟩, HX2.out⟩⟩
end Go.Proofs.YtmonfmmcgfmeeaaGreatDoor.Nm
