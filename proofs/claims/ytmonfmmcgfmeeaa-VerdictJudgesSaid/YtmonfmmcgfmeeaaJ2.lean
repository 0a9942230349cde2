/- The verdict's Judge: what it answers, by the plain model. -/
import Derived.Test.YtmonfmmcgfmeeaaJ1
namespace Go.Proofs.Ytmonfmmcgfmeeaa.PVerdictJudges
open Go.RowKit Go.Proofs.YtmonfmmcgfmeeaaW.PrintWords Go.Proofs.YtmonfmmcgfmeeaaW.PrintLast Go.Proofs.YtmonfmmcgfmeeaaW.PrintMore

def saidOf (log : List S40) (c : S40) : Int := if (sayOf c.f0 c.f1 log).2 = true then (if ((sayOf c.f0 c.f1 log).1.toList == c.f2.toList) = true then 1 else 2) else 3
def opOf (log : List S40) (c : S40) : S33 := ⟨4, c.f0, c.f2, c.f1, 0, 0, saidOf log c, []⟩
def judgeOf (log due : List S40) : List S33 := due.map (opOf log)

theorem judge_snoc (ys xs : List S40) (k : Nat) (h : k < xs.length) : judgeOf ys (xs.take (k + 1)) = judgeOf ys (xs.take k) ++ [opOf ys (rd_T40 xs k)] := by
  unfold judgeOf
  rw [List.take_succ_eq_append_getElem h, List.map_append]
  simp [rd_T40, List.getD_eq_getElem?_getD, List.getElem?_eq_getElem h]

set_option maxHeartbeats 1000000 in
theorem judge_any (A : Option Addr) (c : Nat) (xs : List S40) (A1 : Option Addr) (c1 : Nat) (ys : List S40) (w : World) (hr : Kd.C k40 w A xs.length xs) (hr1 : Kd.C k40 w A1 ys.length ys) (hl : xs.length < 1000000) :
    Calls Try.prog 6 #[.slice A xs.length c, .slice A1 ys.length c1] w fun r w' => ∃ v, r = .returned v ∧ Kd.R k33 33 w' w.heap.size (fun _ => True) v (judgeOf ys xs) ∧ Below w.heap.size w w' := by
  have HR := Aside0.mk hr
  have HR1 := Aside0.mk hr1
  have HL := Aside0.mk hl
  clear hr hr1 hl
  go_enter Try.func6, Try.ntmps6
  go_wp2
  go_loopw [4, 12] (fun v4 v12 wr => ∃ k : Nat, k ≤ xs.length ∧ v12 = .int .i64 k ∧ Aside0 (Kd.R k33 33 wr w.heap.size (fun _ => True) v4 (judgeOf ys (xs.take k))) ∧ Aside0 (Below w.heap.size w wr)) (fun _ v12 _ => xs.length - (intOf v12).toNat)
  case atStart => exact ⟨0, Nat.zero_le _, rfl, ⟨Kd.R_nil _ _ _ _ _⟩, ⟨Below.refl _ _⟩⟩
  case round =>
    obtain ⟨k, hk, rfl, HO, HB⟩ := hrel
    by_cases hlt : k < xs.length
    · have hl := HL.out
      obtain ⟨ad, e1, x0, x1, x2⟩ := at_T40 HR.out k (by omega) (by omega)
      cases e1
      rw [Int.toNat_natCast] at x0 x1 x2
      replace x0 := (HB.out.cell (World.block_lt_of_cell? w _ x0)).trans x0
      replace x1 := (HB.out.cell (World.block_lt_of_cell? w _ x1)).trans x1
      replace x2 := (HB.out.cell (World.block_lt_of_cell? w _ x2)).trans x2
      have hSay := fun W (hbW : Below w.heap.size w W) => say_any (rd_T40 xs k).f0 (rd_T40 xs k).f1 A1 c1 ys W (Kd.C_below HR1.out hbW)
      obtain ⟨sr, hsr⟩ : ∃ s, s = sayOf (rd_T40 xs k).f0 (rd_T40 xs k).f1 ys := ⟨_, rfl⟩
      rw [← hsr] at hSay
      have HSay := Aside0.mk hSay
      have HS := Aside0.mk hsr
      clear hSay hsr
      obtain ⟨s1, s2⟩ := sr
      cases s2
      · have hs3 : saidOf ys (rd_T40 xs k) = 3 := by unfold saidOf; rw [← HS.out]; rfl
        clear HS
        have HS := Aside0.mk hs3
        clear hs3
        go_wp2_with (first | (go_at_call 10; refine (HSay.out _ ?hB).mono ?_; (case hB => exact HB.out.alloc HB.out.size _); rintro e w' ⟨rfl, hb'⟩; have BK := blk_below (blk_new wr (.cells #[.string (rd_T40 xs k).f0, .int .i64 (rd_T40 xs k).f1, .string (rd_T40 xs k).f2] 40)) hb'; have z0 : w'.cell? ⟨wr.heap.size, 0, none⟩ = some (.string (rd_T40 xs k).f0) := (blk_cell BK 0).trans rfl; have z1 : w'.cell? ⟨wr.heap.size, 1, none⟩ = some (.int .i64 (rd_T40 xs k).f1) := (blk_cell BK 1).trans rfl; have z2 : w'.cell? ⟨wr.heap.size, 2, none⟩ = some (.string (rd_T40 xs k).f2) := (blk_cell BK 2).trans rfl; have HB1 := Aside0.mk (below_step (HB.out.alloc HB.out.size _) hb'); have HO1 := Aside0.mk (Kd.R_below (Kd.R_below HO.out ((Below.refl _ _).alloc (Nat.le_refl _) _)) hb'); clear hb' BK) | ((with_reducible refine gate_builtin (b := .append) (xs := #[.tmp 30, .tmp 39]) rfl ?_); at_builtin; refine Kd.R_append k33 (w0 := w) w.heap.size rfl (.tmp 30) (.tmp 39) 25 33 (.agg #[(.int .i64 0), (.string ⟨#[]⟩), (.string ⟨#[]⟩), (.int .i64 0), (.int .i64 0), (.int .i64 0), (.int .i64 0), (.slice none 0 0)]) 96 rfl Try.underlying25 info33 rfl (by decide) (by omega) u4 (judgeOf ys (xs.take k)) (opOf ys (rd_T40 xs k)) [.int .i64 4, .string (rd_T40 xs k).f0, .string (rd_T40 xs k).f2, .int .i64 (rd_T40 xs k).f1, .int .i64 0, .int .i64 0, .int .i64 3, .slice none 0 0] (fun _ => True) (fun _ => False) rfl rfl ?aP (fun _ hk => hk.elim) ?aF ?aO ?aB ?aS ?aL ?_; (case aP => have := k33_mkM w' w.heap.size (fun _ => False) (opOf ys (rd_T40 xs k)) (v7 := .slice none 0 0) (Kd.R_nil _ _ _ _ _); rwa [show (opOf ys (rd_T40 xs k)).f6 = 3 from HS.out] at this); (case aF => exact fun _ _ => trivial); (case aO => exact HO1.out); (case aB => exact HB1.out); (case aS => exact HB1.out.size); (case aL => have := HL.out; simp [judgeOf]; omega); intro v1 w1 ho hb hg hat; have HO2 := Aside0.mk ho; have HB2 := Aside0.mk hb; clear ho hb hg hat))
        go_roundw
        case rel => exact ⟨k + 1, by omega, by go_num, ⟨by rw [judge_snoc _ _ _ hlt]; exact HO2.out⟩, ⟨HB2.out⟩⟩
        case measure => simp [intOf]; omega
      · cases hq : (s1.toList == (rd_T40 xs k).f2.toList)
        · have hs3 : saidOf ys (rd_T40 xs k) = 2 := by unfold saidOf; rw [← HS.out]; simp [hq]
          clear HS
          have HS := Aside0.mk hs3
          clear hs3
          go_wp2_with (first | (go_at_call 10; refine (HSay.out _ ?hB).mono ?_; (case hB => exact HB.out.alloc HB.out.size _); rintro e w' ⟨rfl, hb'⟩; have BK := blk_below (blk_new wr (.cells #[.string (rd_T40 xs k).f0, .int .i64 (rd_T40 xs k).f1, .string (rd_T40 xs k).f2] 40)) hb'; have z0 : w'.cell? ⟨wr.heap.size, 0, none⟩ = some (.string (rd_T40 xs k).f0) := (blk_cell BK 0).trans rfl; have z1 : w'.cell? ⟨wr.heap.size, 1, none⟩ = some (.int .i64 (rd_T40 xs k).f1) := (blk_cell BK 1).trans rfl; have z2 : w'.cell? ⟨wr.heap.size, 2, none⟩ = some (.string (rd_T40 xs k).f2) := (blk_cell BK 2).trans rfl; have HB1 := Aside0.mk (below_step (HB.out.alloc HB.out.size _) hb'); have HO1 := Aside0.mk (Kd.R_below (Kd.R_below HO.out ((Below.refl _ _).alloc (Nat.le_refl _) _)) hb'); clear hb' BK) | ((with_reducible refine gate_builtin (b := .append) (xs := #[.tmp 30, .tmp 39]) rfl ?_); at_builtin; refine Kd.R_append k33 (w0 := w) w.heap.size rfl (.tmp 30) (.tmp 39) 25 33 (.agg #[(.int .i64 0), (.string ⟨#[]⟩), (.string ⟨#[]⟩), (.int .i64 0), (.int .i64 0), (.int .i64 0), (.int .i64 0), (.slice none 0 0)]) 96 rfl Try.underlying25 info33 rfl (by decide) (by omega) u4 (judgeOf ys (xs.take k)) (opOf ys (rd_T40 xs k)) [.int .i64 4, .string (rd_T40 xs k).f0, .string (rd_T40 xs k).f2, .int .i64 (rd_T40 xs k).f1, .int .i64 0, .int .i64 0, .int .i64 2, .slice none 0 0] (fun _ => True) (fun _ => False) rfl rfl ?aP (fun _ hk => hk.elim) ?aF ?aO ?aB ?aS ?aL ?_; (case aP => have := k33_mkM w' w.heap.size (fun _ => False) (opOf ys (rd_T40 xs k)) (v7 := .slice none 0 0) (Kd.R_nil _ _ _ _ _); rwa [show (opOf ys (rd_T40 xs k)).f6 = 2 from HS.out] at this); (case aF => exact fun _ _ => trivial); (case aO => exact HO1.out); (case aB => exact HB1.out); (case aS => exact HB1.out.size); (case aL => have := HL.out; simp [judgeOf]; omega); intro v1 w1 ho hb hg hat; have HO2 := Aside0.mk ho; have HB2 := Aside0.mk hb; clear ho hb hg hat))
          go_roundw
          case rel => exact ⟨k + 1, by omega, by go_num, ⟨by rw [judge_snoc _ _ _ hlt]; exact HO2.out⟩, ⟨HB2.out⟩⟩
          case measure => simp [intOf]; omega
        · have hs3 : saidOf ys (rd_T40 xs k) = 1 := by unfold saidOf; rw [← HS.out]; simp [hq]
          clear HS
          have HS := Aside0.mk hs3
          clear hs3
          go_wp2_with (first | (go_at_call 10; refine (HSay.out _ ?hB).mono ?_; (case hB => exact HB.out.alloc HB.out.size _); rintro e w' ⟨rfl, hb'⟩; have BK := blk_below (blk_new wr (.cells #[.string (rd_T40 xs k).f0, .int .i64 (rd_T40 xs k).f1, .string (rd_T40 xs k).f2] 40)) hb'; have z0 : w'.cell? ⟨wr.heap.size, 0, none⟩ = some (.string (rd_T40 xs k).f0) := (blk_cell BK 0).trans rfl; have z1 : w'.cell? ⟨wr.heap.size, 1, none⟩ = some (.int .i64 (rd_T40 xs k).f1) := (blk_cell BK 1).trans rfl; have z2 : w'.cell? ⟨wr.heap.size, 2, none⟩ = some (.string (rd_T40 xs k).f2) := (blk_cell BK 2).trans rfl; have HB1 := Aside0.mk (below_step (HB.out.alloc HB.out.size _) hb'); have HO1 := Aside0.mk (Kd.R_below (Kd.R_below HO.out ((Below.refl _ _).alloc (Nat.le_refl _) _)) hb'); clear hb' BK) | ((with_reducible refine gate_builtin (b := .append) (xs := #[.tmp 30, .tmp 39]) rfl ?_); at_builtin; refine Kd.R_append k33 (w0 := w) w.heap.size rfl (.tmp 30) (.tmp 39) 25 33 (.agg #[(.int .i64 0), (.string ⟨#[]⟩), (.string ⟨#[]⟩), (.int .i64 0), (.int .i64 0), (.int .i64 0), (.int .i64 0), (.slice none 0 0)]) 96 rfl Try.underlying25 info33 rfl (by decide) (by omega) u4 (judgeOf ys (xs.take k)) (opOf ys (rd_T40 xs k)) [.int .i64 4, .string (rd_T40 xs k).f0, .string (rd_T40 xs k).f2, .int .i64 (rd_T40 xs k).f1, .int .i64 0, .int .i64 0, .int .i64 1, .slice none 0 0] (fun _ => True) (fun _ => False) rfl rfl ?aP (fun _ hk => hk.elim) ?aF ?aO ?aB ?aS ?aL ?_; (case aP => have := k33_mkM w' w.heap.size (fun _ => False) (opOf ys (rd_T40 xs k)) (v7 := .slice none 0 0) (Kd.R_nil _ _ _ _ _); rwa [show (opOf ys (rd_T40 xs k)).f6 = 1 from HS.out] at this); (case aF => exact fun _ _ => trivial); (case aO => exact HO1.out); (case aB => exact HB1.out); (case aS => exact HB1.out.size); (case aL => have := HL.out; simp [judgeOf]; omega); intro v1 w1 ho hb hg hat; have HO2 := Aside0.mk ho; have HB2 := Aside0.mk hb; clear ho hb hg hat))
          go_roundw
          case rel => exact ⟨k + 1, by omega, by go_num, ⟨by rw [judge_snoc _ _ _ hlt]; exact HO2.out⟩, ⟨HB2.out⟩⟩
          case measure => simp [intOf]; omega
    · obtain rfl : k = xs.length := by omega
      go_wp2
      go_ret
      exact ⟨_, rfl, by have := HO.out; rwa [List.take_length] at this, HB.out⟩
end Go.Proofs.Ytmonfmmcgfmeeaa.PVerdictJudges
