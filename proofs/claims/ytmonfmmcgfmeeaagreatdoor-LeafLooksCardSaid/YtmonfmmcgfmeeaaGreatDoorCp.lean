/- cmp.Compare of strings. slices.Compare of strings. -/
import Derived.Test.YtmonfmmcgfmeeaaGreatDoorLf1
import Derived.IntWalk
namespace Go.Proofs.YtmonfmmcgfmeeaaGreatDoor.Lf
open Go.RowKit Go.Proofs.YtmonfmmcgfmeeaaGreatDoorW.PrintWords
set_option linter.unusedVariables false
set_option linter.unusedSimpArgs false

theorem nan_any (a : ByteArray) (w : World) : Calls Tryz.prog 53 #[.string a] w fun e w' => e = .returned (.bool false) ∧ Drawn0 w w' := by
  go_enter Tryz.func53, Tryz.ntmps53
  go_wp2
  go_ret
  exact ⟨by first | rfl | simp, by repeat (first | exact Drawn0.refl _ | apply Drawn0.step)⟩

/-- Bytes compared. -/
def cmpS (a b : ByteArray) : Int := if Op.bytesLess a.toList b.toList = true then -1 else if a.toList = b.toList then 0 else 1

theorem run_gtr (a b : ByteArray) (W : World) : (binOp .gtr 9 (.string a) (.string b)).run Tryz.prog W = .ok (.bool (!(Op.bytesLess a.toList b.toList || a.toList == b.toList))) W := by
  simp [binOp, run_underlying Tryz.underlying9, Op.stringOp, Result.andThen]
set_option maxHeartbeats 1000000 in
theorem compare_any (a b : ByteArray) (w : World) : Calls Tryz.prog 31 #[.string a, .string b] w fun e w' => e = .returned (.int .i64 (cmpS a b)) ∧ Drawn0 w w' := by
  obtain ⟨r, hr⟩ : ∃ r, r = cmpS a b := ⟨_, rfl⟩
  rw [← hr]
  have hg := fun W => run_gtr a b W
  unfold cmpS at hr
  cases hl : Op.bytesLess a.toList b.toList
  · by_cases he : a.toList = b.toList
    · have e1 : (a.toList == b.toList) = true := by rw [beq_iff_eq]; exact he
      rw [if_neg (by rw [hl]; decide), if_pos he] at hr
      rw [hl, e1] at hg
      simp only [Bool.or_true, Bool.not_true] at hg
      subst hr
      clear he e1
      go_enter Tryz.func31, Tryz.ntmps31
      go_wp2_with (first | (go_at_call 53; refine (nan_any _ _).mono ?_; rintro e w' ⟨rfl, ⟨nd, rfl⟩⟩))
      go_ret
      exact ⟨by first | rfl | simp, by repeat (first | exact Drawn0.refl _ | apply Drawn0.step)⟩
    · have e1 : (a.toList == b.toList) = false := by rw [beq_eq_false_iff_ne]; exact he
      rw [if_neg (by rw [hl]; decide), if_neg he] at hr
      rw [hl, e1] at hg
      simp only [Bool.or_false, Bool.not_false] at hg
      subst hr
      clear he e1
      go_enter Tryz.func31, Tryz.ntmps31
      go_wp2_with (first | (go_at_call 53; refine (nan_any _ _).mono ?_; rintro e w' ⟨rfl, ⟨nd, rfl⟩⟩))
      go_ret
      exact ⟨by first | rfl | simp, by repeat (first | exact Drawn0.refl _ | apply Drawn0.step)⟩
  · rw [if_pos hl] at hr
    subst hr
    clear hg
    go_enter Tryz.func31, Tryz.ntmps31
    go_wp2_with (first | (go_at_call 53; refine (nan_any _ _).mono ?_; rintro e w' ⟨rfl, ⟨nd, rfl⟩⟩))
    go_ret
    exact ⟨by first | rfl | simp, by repeat (first | exact Drawn0.refl _ | apply Drawn0.step)⟩
end Go.Proofs.YtmonfmmcgfmeeaaGreatDoor.Lf

namespace Go.Proofs.YtmonfmmcgfmeeaaGreatDoor.Lf
open Go.RowKit Go.Proofs.YtmonfmmcgfmeeaaGreatDoorW.PrintWords
set_option linter.unusedVariables false
set_option linter.unusedSimpArgs false

/-- Lists of bytes compared, member by member. -/
def cmpL : List ByteArray → List ByteArray → Int
  | [], [] => 0
  | [], _ :: _ => -1
  | _ :: _, [] => 1
  | a :: x, b :: y => if cmpS a b = 0 then cmpL x y else cmpS a b

set_option maxHeartbeats 2000000 in
theorem slcompare_any (A : Option Addr) (c : Nat) (x : List ByteArray) (B : Option Addr) (d : Nat) (y : List ByteArray) (w : World) (hx : Kd.C Kd.string w A x.length x) (hy : Kd.C Kd.string w B y.length y) :
    Calls Tryz.prog 51 #[.slice A x.length c, .slice B y.length d] w fun e w' => e = .returned (.int .i64 (cmpL x y)) ∧ Drawn0 w w' := by
  have HX := Aside0.mk hx
  have HY := Aside0.mk hy
  clear hx hy
  obtain ⟨R, hR⟩ : ∃ R, R = cmpL x y := ⟨_, rfl⟩
  rw [← hR]
  have HRR := Aside0.mk hR
  clear hR
  go_enter Tryz.func51, Tryz.ntmps51
  go_wp2
  go_loopw [11] (fun v11 wr => ∃ i : Nat, i ≤ x.length ∧ v11 = .int .i64 i ∧ Aside0 (R = cmpL (x.drop i) (y.drop i)) ∧ Aside0 (i ≤ y.length) ∧ Drawn0 w wr) (fun v11 _ => x.length - (intOf v11).toNat)
  case atStart => exact ⟨0, Nat.zero_le _, rfl, HRR, ⟨Nat.zero_le _⟩, Drawn0.refl _⟩
  case round =>
    obtain ⟨i, hi, rfl, HR, HYi, ⟨nd, rfl⟩⟩ := hrel
    have hx63 := HX.out.2.1
    by_cases hlt : i < x.length
    · have hi1 : IntKind.i64.wrap ((i : Int) + 1) = (i : Int) + 1 := IntWalk.i64_in _ (by omega)
      obtain ⟨ad, eA, x0⟩ := Kd.at_string HX.out (i : Int) (by omega) (by omega)
      have hrd : rdOf ByteArray.empty x (i : Int) = x[i] := by rw [rdOf, Int.toNat_natCast, List.getD_eq_getElem?_getD, List.getElem?_eq_getElem hlt]; rfl
      rw [hrd, Int.toNat_natCast] at x0
      have hdx : x.drop i = x[i] :: x.drop (i + 1) := List.drop_eq_getElem_cons hlt
      subst eA
      by_cases hly : i < y.length
      · obtain ⟨bd, eB, y0⟩ := Kd.at_string HY.out (i : Int) (by omega) (by omega)
        have hrdy : rdOf ByteArray.empty y (i : Int) = y[i] := by rw [rdOf, Int.toNat_natCast, List.getD_eq_getElem?_getD, List.getElem?_eq_getElem hly]; rfl
        rw [hrdy, Int.toNat_natCast] at y0
        have hdy : y.drop i = y[i] :: y.drop (i + 1) := List.drop_eq_getElem_cons hly
        have hstep := HR.out
        rw [hdx, hdy, cmpL] at hstep
        have hlyz : decide ((y.length : Int) ≤ (i : Int)) = false := decide_eq_false (by omega)
        have hlyn : decide (y.length ≤ i) = false := decide_eq_false (by omega)
        have hiy : (i : Int) < (y.length : Int) := by omega
        subst eB
        have HC := Aside0.mk (fun W => compare_any x[i] y[i] W)
        generalize x[i] = p at x0 hstep HC
        generalize y[i] = q at y0 hstep HC
        generalize cmpS p q = z at hstep HC
        have HN := Aside0.mk hly
        clear hdx hdy hrd hrdy hly
        by_cases hz : z = 0
        · rw [if_pos hz] at hstep
          have HS := Aside0.mk hstep
          subst hz
          clear hstep
          go_wp2_with (first | (go_at_call 31; refine (HC.out _).mono ?_; rintro e w' ⟨rfl, ⟨nd2, rfl⟩⟩))
          go_roundw
          case rel => exact ⟨i + 1, by omega, by push_cast; rfl, HS, ⟨by have := HN.out; omega⟩, ⟨_, rfl⟩⟩
          case measure => simp [intOf]; omega
        · rw [if_neg hz] at hstep
          have hzb : (z != 0) = true := by rw [bne_iff_ne]; exact hz
          subst hstep
          go_wp2_with (first | (go_at_call 31; refine (HC.out _).mono ?_; rintro e w' ⟨rfl, ⟨nd2, rfl⟩⟩))
          go_ret
          exact ⟨rfl, ⟨_, rfl⟩⟩
      · have hyi : i = y.length := by have := HYi.out; omega
        have hstep := HR.out
        rw [hdx, List.drop_of_length_le (by omega : y.length ≤ i), cmpL] at hstep
        have hlyz : decide ((y.length : Int) ≤ (i : Int)) = true := decide_eq_true (by omega)
        have hlyn : decide (y.length ≤ i) = true := decide_eq_true (by omega)
        subst hstep
        clear hdx hrd hly hyi
        go_wp2
        go_ret
        exact ⟨rfl, ⟨_, rfl⟩⟩
    · have hxi : i = x.length := by omega
      have hstep := HR.out
      rw [List.drop_of_length_le (by omega : x.length ≤ i)] at hstep
      have hyl := HYi.out
      clear hlt
      by_cases hly : x.length < y.length
      · have hdy : ∃ b r, y.drop i = b :: r := ⟨_, _, List.drop_eq_getElem_cons (by omega)⟩
        obtain ⟨b, r, hdy⟩ := hdy
        rw [hdy, cmpL] at hstep
        have h1 : decide ((x.length : Int) < (y.length : Int)) = true := decide_eq_true (by omega)
        have h2 : decide (x.length < y.length) = true := decide_eq_true hly
        subst hstep
        subst hxi
        clear hdy hly hyl
        go_wp2
        go_ret
        exact ⟨rfl, ⟨_, rfl⟩⟩
      · rw [List.drop_of_length_le (by omega : y.length ≤ i), cmpL] at hstep
        have h1 : decide ((x.length : Int) < (y.length : Int)) = false := decide_eq_false (by omega)
        have h2 : decide (x.length < y.length) = false := decide_eq_false hly
        subst hstep
        subst hxi
        clear hly hyl
        go_wp2
        go_ret
        exact ⟨rfl, ⟨_, rfl⟩⟩
end Go.Proofs.YtmonfmmcgfmeeaaGreatDoor.Lf
