/- The verdict's Say and Judge: what they answer, by the plain model of the reference. -/
import Derived.Test.YtmonfmmcgfmeeaaPVerdictJudgesx
namespace Go.Proofs.Ytmonfmmcgfmeeaa.PVerdictJudges
open Go.RowKit Go.Proofs.YtmonfmmcgfmeeaaW.PrintWords Go.Proofs.YtmonfmmcgfmeeaaW.PrintLast Go.Proofs.YtmonfmmcgfmeeaaW.PrintMore

/-- '==' of two commits. -/
theorem eql40 (x0 y0 : ByteArray) (x1 y1 : Int) (x2 y2 : ByteArray) (w : World) :
    Sem.run Try.prog (binOp .eql 40 (.agg #[.string x0, .int .i64 x1, .string x2]) (.agg #[.string y0, .int .i64 y1, .string y2])) w = .ok (.bool (x0.toList == y0.toList && x1 == y1 && x2.toList == y2.toList)) w := by
  have u3 := Try.underlying3
  have u9 := Try.underlying9
  have hS : Try.prog.underlying 40 = some (.struct (Try.prog.fieldsOf 40)) := by kernel_rfl
  have hp : Try.prog.stoodInHeld 40 = false := by kernel_rfl
  rw [run_eql_struct, show (10000 : Nat) = 9999 + 1 from rfl, run_equalIn_agg w 9999 40 _ _ hS hp]
  simp only [Program.fieldsOf, Try.underlying40]
  go_simp
  by_cases h1 : x0.toList = y0.toList <;> by_cases h2 : x1 = y1 <;> by_cases h3 : x2.toList = y2.toList <;> simp [h1, h2, h3]

def isAt (i : ByteArray) (e : Int) (c : S40) : Bool := c.f0.toList == i.toList && c.f1 == e

theorem say1_any (i : ByteArray) (e : Int) (c : S40) (B1 B2 : Nat) (w : World) (b1 : B1 < w.heap.size) (b2 : B2 < w.heap.size) (h1 : w.cell? ⟨B1, 0, none⟩ = some (.string i)) (h2 : w.cell? ⟨B2, 0, none⟩ = some (.int .i64 e)) :
    Calls Try.prog 14 #[.agg #[.string c.f0, .int .i64 c.f1, .string c.f2], .pointer (some ⟨B1, 0, none⟩), .pointer (some ⟨B2, 0, none⟩)] w fun r w' => r = .returned (.bool (isAt i e c)) ∧ Below w.heap.size w w' := by
  have heq := eql40
  have n1 : B1 ≠ w.heap.size := by omega
  have n2 : B2 ≠ w.heap.size := by omega
  go_enter Try.func14, Try.ntmps14
  go_wp2
  go_ret
  exact ⟨by simp [isAt], (Below.refl _ _).alloc (Nat.le_refl _) _⟩

/-- The first place of a commit of that group and epoch; -1: none. -/
def idxOf (i : ByteArray) (e : Int) (xs : List S40) : Int := match xs.findIdx? (isAt i e) with | some k => k | none => -1

theorem idxOf_hit (i : ByteArray) (e : Int) (xs : List S40) (k : Nat) (hk : k < xs.length) (h0 : ∀ j, j < k → isAt i e (xs.getD j z40) = false) (h1 : isAt i e (xs.getD k z40) = true) : idxOf i e xs = k := by
  have : xs.findIdx? (isAt i e) = some k := by
    rw [List.findIdx?_eq_some_iff_getElem]
    refine ⟨hk, ?_, ?_⟩
    · simpa [List.getD_eq_getElem?_getD, List.getElem?_eq_getElem hk] using h1
    · intro j hj
      have := h0 j hj
      simpa [List.getD_eq_getElem?_getD, List.getElem?_eq_getElem (Nat.lt_trans hj hk)] using this
  simp [idxOf, this]

theorem idxOf_none (i : ByteArray) (e : Int) (xs : List S40) (h0 : ∀ j, j < xs.length → isAt i e (xs.getD j z40) = false) : idxOf i e xs = -1 := by
  have : xs.findIdx? (isAt i e) = none := by
    rw [List.findIdx?_eq_none_iff]
    intro x hx
    obtain ⟨j, hj, rfl⟩ := List.getElem_of_mem hx
    have := h0 j hj
    simpa [List.getD_eq_getElem?_getD, List.getElem?_eq_getElem hj] using this
  simp [idxOf, this]

theorem index_any (i : ByteArray) (e : Int) (A : Option Addr) (c : Nat) (xs : List S40) (B1 B2 : Nat) (w : World) (hr : Kd.C k40 w A xs.length xs) (b1 : B1 < w.heap.size) (b2 : B2 < w.heap.size) (h1 : w.cell? ⟨B1, 0, none⟩ = some (.string i)) (h2 : w.cell? ⟨B2, 0, none⟩ = some (.int .i64 e)) :
    Calls Try.prog 13 #[.slice A xs.length c, .func (.func 14) #[] #[.pointer (some ⟨B1, 0, none⟩), .pointer (some ⟨B2, 0, none⟩)]] w fun r w' => r = .returned (.int .i64 (idxOf i e xs)) ∧ Below w.heap.size w w' := by
  have hn : xs.length ≤ 9223372036854775807 := hr.2.1
  have HR := Aside0.mk hr
  clear hr
  go_enter Try.func13, Try.ntmps13
  go_wp2
  go_loopw [8] (fun v8 wr => ∃ k : Nat, k ≤ xs.length ∧ v8 = .int .i64 k ∧ Aside0 (∀ j, j < k → isAt i e (xs.getD j z40) = false) ∧ Aside0 (Below w.heap.size w wr)) (fun v8 _ => xs.length - (intOf v8).toNat)
  case atStart => exact ⟨0, Nat.zero_le _, rfl, ⟨fun j hj => by omega⟩, ⟨Below.refl _ _⟩⟩
  case round =>
    obtain ⟨k, hk, rfl, HN, HB⟩ := hrel
    by_cases hlt : k < xs.length
    · obtain ⟨ad, e1, x0, x1, x2⟩ := at_T40 HR.out k (by omega) (by omega)
      cases e1
      rw [Int.toNat_natCast] at x0 x1 x2
      replace x0 := (HB.out.cell (World.block_lt_of_cell? w _ x0)).trans x0
      replace x1 := (HB.out.cell (World.block_lt_of_cell? w _ x1)).trans x1
      replace x2 := (HB.out.cell (World.block_lt_of_cell? w _ x2)).trans x2
      have y1 := (HB.out.cell b1).trans h1
      have y2 := (HB.out.cell b2).trans h2
      have b1' := Nat.lt_of_lt_of_le b1 HB.out.size
      have b2' := Nat.lt_of_lt_of_le b2 HB.out.size
      have hget : xs.getD k z40 = rd_T40 xs k := by simp [rd_T40]
      have HS := Aside0.mk hget
      clear hget
      cases hb : isAt i e (rd_T40 xs k)
      · go_wp2_with (go_at_call 14; refine (say1_any i e (rd_T40 xs k) B1 B2 _ b1' b2' y1 y2).mono ?_; rintro e w' ⟨rfl, hb'⟩; replace hb' := Aside0.mk hb')
        go_roundw
        case rel => exact ⟨k + 1, by omega, by go_num, ⟨fun j hj => by
          rcases Nat.lt_or_ge j k with h | h
          · exact HN.out j h
          · obtain rfl : j = k := by omega
            rw [HS.out]; exact hb⟩, ⟨HB.out.trans (hb'.out.mono HB.out.size)⟩⟩
        case measure => simp [intOf]; omega
      · go_wp2_with (go_at_call 14; refine (say1_any i e (rd_T40 xs k) B1 B2 _ b1' b2' y1 y2).mono ?_; rintro e w' ⟨rfl, hb'⟩; replace hb' := Aside0.mk hb')
        go_ret
        exact ⟨by rw [idxOf_hit i e xs k hlt HN.out (by rw [HS.out]; exact hb)]; rfl, HB.out.trans (hb'.out.mono HB.out.size)⟩
    · obtain rfl : k = xs.length := by omega
      go_wp2
      go_ret
      exact ⟨by rw [idxOf_none i e xs HN.out]; rfl, HB.out⟩

/-- What the service said, as the list has it. -/
def sayOf (i : ByteArray) (e : Int) (xs : List S40) : ByteArray × Bool := match xs.find? (isAt i e) with | some c => (c.f2, true) | none => (⟨#[]⟩, false)

theorem idxOf_find (i : ByteArray) (e : Int) (xs : List S40) : (idxOf i e xs = -1 ∧ sayOf i e xs = (⟨#[]⟩, false)) ∨ (∃ k, k < xs.length ∧ idxOf i e xs = k ∧ sayOf i e xs = ((rd_T40 xs k).f2, true)) := by
  unfold idxOf sayOf
  cases h : xs.findIdx? (isAt i e) with
  | none =>
    left
    rw [List.findIdx?_eq_none_iff] at h
    have : xs.find? (isAt i e) = none := by rw [List.find?_eq_none]; intro x hx; rw [h x hx]; simp
    simp [this]
  | some k =>
    right
    rw [List.findIdx?_eq_some_iff_getElem] at h
    obtain ⟨hk, h1, h2⟩ := h
    have : xs.find? (isAt i e) = some xs[k] := by
      rw [List.find?_eq_some_iff_getElem]
      exact ⟨h1, k, hk, rfl, fun j hj => by have := h2 j hj; simpa using this⟩
    exact ⟨k, hk, rfl, by simp [this, rd_T40, List.getD_eq_getElem?_getD, List.getElem?_eq_getElem hk]⟩

theorem say_any (i : ByteArray) (e : Int) (A : Option Addr) (c : Nat) (xs : List S40) (w : World) (hr : Kd.C k40 w A xs.length xs) :
    Calls Try.prog 10 #[.slice A xs.length c, .string i, .int .i64 e] w fun r w' => r = .returned (.tuple #[.string (sayOf i e xs).1, .bool (sayOf i e xs).2]) ∧ Below w.heap.size w w' := by
  have hn : xs.length ≤ 9223372036854775807 := hr.2.1
  have hb2 : Below w.heap.size w ((w.alloc (.cells #[.string i] 9)).alloc (.cells #[.int .i64 e] 3)) := ((Below.refl _ _).alloc (Nat.le_refl _) _).alloc (by simp) _
  have hcon := index_any i e A c xs w.heap.size (w.heap.size + 1) ((w.alloc (.cells #[.string i] 9)).alloc (.cells #[.int .i64 e] 3)) (Kd.C_below hr hb2) (by simp; omega) (by simp) (by go_simp) (by go_simp)
  have HC := Aside0.mk hcon
  have HR := Aside0.mk hr
  have HB2 := Aside0.mk hb2
  clear hr hcon hb2
  rcases idxOf_find i e xs with ⟨h1, h2⟩ | ⟨k, hk, h1, h2⟩
  · rw [h1] at HC
    rw [h2]
    clear h1 h2
    go_enter Try.func10, Try.ntmps10
    go_wp2_with (go_at_call 13; refine (HC.out).mono ?_; rintro e w' ⟨rfl, hb'⟩; replace hb' := Aside0.mk hb')
    go_ret2
    exact ⟨rfl, HB2.out.trans (hb'.out.mono (by simp; omega))⟩
  · rw [h1] at HC
    rw [h2]
    clear h1 h2
    obtain ⟨ad, e1, x0, x1, x2⟩ := at_T40 HR.out k (by omega) (by omega)
    cases e1
    rw [Int.toNat_natCast] at x0 x1 x2
    have X2 := Aside0.mk x2
    clear x0 x1 x2
    go_enter Try.func10, Try.ntmps10
    go_wp2_with (go_at_call 13; refine (HC.out).mono ?_; rintro e w' ⟨rfl, hb'⟩; have HB := Aside0.mk (HB2.out.trans (hb'.mono (by simp; omega))); clear hb'; have x2 := (HB.out.cell (World.block_lt_of_cell? w _ X2.out)).trans X2.out)
    go_ret2
    exact ⟨rfl, HB.out⟩
end Go.Proofs.Ytmonfmmcgfmeeaa.PVerdictJudges
