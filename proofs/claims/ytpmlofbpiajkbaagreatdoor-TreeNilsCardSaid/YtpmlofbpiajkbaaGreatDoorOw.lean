/- The law's function on every input: true, and what was there before is kept. -/
import Derived.Test.YtpmlofbpiajkbaaGreatDoorRn
import Derived.Below
set_option linter.unusedVariables false
set_option maxRecDepth 1000000
namespace Go.Proofs.YtpmlofbpiajkbaaGreatDoor.M2
open Go
noncomputable section
/-- A call without arguments, from an empty heap, comes to a value without names: it does so in any heap. -/
theorem closed_ok {P : Program} {f : Nat} {b : Bool} {ah2 : AH} (hc : CallOk P (fun _ => none) f [] ⟨0, .leaf⟩ (.bool b) ah2) (ah : AH) : CallOk P (fun _ => none) f [] ah (.bool b) ah := by
  intro φ w args' _ hr hv
  have h0 : HR (fun _ => none) ⟨0, .leaf⟩ w := ⟨fun _ _ _ _ e => (by cases e), fun _ _ _ _ _ _ _ e => (by cases e), fun _ _ _ e => (by cases e)⟩
  have hv0 : VRs (fun _ => none) [] args'.toList := by
    generalize args'.toList = l at hv
    cases hv
    exact .nil
  have fin : ∀ {ψ : Phi} {w' : World}, Stp (fun _ => none) ⟨0, .leaf⟩ w ψ ah2 w' → Stp φ ah w φ ah w' := fun {ψ w'} k => by
    have hk : ∀ c, c < w.heap.size → w'.heap[c]? = w.heap[c]? := fun c hc => k.out.2 c hc fun b o z e => by cases e
    refine ⟨Phi.le.refl φ, fun _ _ => rfl, Nat.le_refl _, ⟨fun b o c z e e2 => ?_, hr.inj, fun b c z e => ?_⟩, ⟨k.out.1, fun c hc _ => hk c hc⟩, fun b o c z e e2 _ => ⟨b, o, z, e, e2⟩, k.env⟩
    · obtain ⟨o', h1, h2⟩ := hr.obj b o c z e e2
      exact ⟨o', (hk c (hr.dom b c z e2).2).trans h1, h2⟩
    · have := hr.dom b c z e
      exact ⟨this.1, Nat.lt_of_lt_of_le this.2 k.out.1⟩
  rcases hc _ w args' (Phi.le.refl _) h0 hv0 with ⟨v', w', q1, ψ, q2, q3⟩ | ⟨q1, q2⟩
  · cases q3
    exact .inl ⟨_, w', q1, φ, fin q2, .bool b⟩
  · refine .inr ⟨q1, CallsIn.mono q2 ?_⟩
    intro en w' he
    cases en with
    | returned v' =>
      obtain ⟨ψ, q2, q3⟩ := he
      cases q3
      exact ⟨φ, fin q2, .bool b⟩
    | _ => exact he.elim
theorem alive_call : ∃ ah2, CallOk Tryz.prog (fun _ => none) 5 [] ⟨0, .leaf⟩ (.bool true) ah2 := by
  obtain ⟨ah2, r1, r2, r3⟩ := chkR_ok runAlive
  exact ⟨ah2, (runJ_ok C2_ok 3000 _ _ r1).1⟩
def aliveG (args : List AV) (ah : AH) : Option (AV × AH) :=
  match args with
  | [] => some (.bool true, ah)
  | _ :: _ => none
def orcA (f : Nat) : Option (List AV → AH → Option (AV × AH)) := cnd (Nat.beq f 5) (some aliveG) (orc0 f)
def Cn : Cfg := cfgW orcA
theorem Cn_ok : CfgOk Cn := cfgW_ok fun f g h args ah v ah' e => by
  unfold orcA at h
  rw [cnd_eq] at h
  split at h
  · rename_i hf
    cases h
    rw [Nat.eq_of_beq_eq_true hf]
    unfold aliveG at e
    split at e
    · cases e
      obtain ⟨ah2, hc⟩ := alive_call
      exact closed_ok hc ah
    · cases e
  · exact orc0_ok _ f g h args ah v ah' e
def isTrue (r : Option Res) : Bool :=
  match r with
  | some (.val (.bool b) _) => b
  | _ => false
def aLow (c : Int) : AV := .tok .i64 true 0 c (-9223372036854775808) c
def aHigh (c : Int) : AV := .tok .i64 false 0 c c 9223372036854775807
def aMid (lo hi : Int) : AV := .tok .i64 false 0 0 lo hi
def runN (a d l : AV) : Option Res := runJ Cn 1000 (.call 3 [.agg [a, d, l], .anyi .i64] ⟨1, .leaf⟩)
theorem runLow : isTrue (runN (aLow 1) (.anyi .i64) (.anyi .i64)) = true := by kernel_rfl
theorem runHigh : isTrue (runN (aHigh 5) (.anyi .i64) (.anyi .i64)) = true := by kernel_rfl
theorem runLow2 : isTrue (runN (.int .i64 2) (aLow 0) (.anyi .i64)) = true := by kernel_rfl
theorem runHigh2 : isTrue (runN (.int .i64 2) (aHigh 4) (.anyi .i64)) = true := by kernel_rfl
theorem runLow2x1 : isTrue (runN (.int .i64 2) (.int .i64 1) (aLow 2)) = true := by kernel_rfl
theorem runHigh2x1 : isTrue (runN (.int .i64 2) (.int .i64 1) (aHigh 65)) = true := by kernel_rfl
theorem runMid2x1 : isTrue (runN (.int .i64 2) (.int .i64 1) (aMid 3 64)) = true := by kernel_rfl
theorem runLow2x2 : isTrue (runN (.int .i64 2) (.int .i64 2) (aLow 3)) = true := by kernel_rfl
theorem runHigh2x2 : isTrue (runN (.int .i64 2) (.int .i64 2) (aHigh 65)) = true := by kernel_rfl
theorem runMid2x2 : isTrue (runN (.int .i64 2) (.int .i64 2) (aMid 4 64)) = true := by kernel_rfl
theorem runLow2x3 : isTrue (runN (.int .i64 2) (.int .i64 3) (aLow 4)) = true := by kernel_rfl
theorem runHigh2x3 : isTrue (runN (.int .i64 2) (.int .i64 3) (aHigh 65)) = true := by kernel_rfl
theorem runMid2x3 : isTrue (runN (.int .i64 2) (.int .i64 3) (aMid 5 64)) = true := by kernel_rfl
theorem runLow3 : isTrue (runN (.int .i64 3) (aLow 0) (.anyi .i64)) = true := by kernel_rfl
theorem runHigh3 : isTrue (runN (.int .i64 3) (aHigh 4) (.anyi .i64)) = true := by kernel_rfl
theorem runLow3x1 : isTrue (runN (.int .i64 3) (.int .i64 1) (aLow 2)) = true := by kernel_rfl
theorem runHigh3x1 : isTrue (runN (.int .i64 3) (.int .i64 1) (aHigh 65)) = true := by kernel_rfl
theorem runMid3x1 : isTrue (runN (.int .i64 3) (.int .i64 1) (aMid 3 64)) = true := by kernel_rfl
theorem runLow3x2 : isTrue (runN (.int .i64 3) (.int .i64 2) (aLow 3)) = true := by kernel_rfl
theorem runHigh3x2 : isTrue (runN (.int .i64 3) (.int .i64 2) (aHigh 65)) = true := by kernel_rfl
theorem runMid3x2 : isTrue (runN (.int .i64 3) (.int .i64 2) (aMid 4 64)) = true := by kernel_rfl
theorem runLow3x3 : isTrue (runN (.int .i64 3) (.int .i64 3) (aLow 4)) = true := by kernel_rfl
theorem runHigh3x3 : isTrue (runN (.int .i64 3) (.int .i64 3) (aHigh 65)) = true := by kernel_rfl
theorem runMid3x3 : isTrue (runN (.int .i64 3) (.int .i64 3) (aMid 5 64)) = true := by kernel_rfl
theorem runLow4 : isTrue (runN (.int .i64 4) (aLow 0) (.anyi .i64)) = true := by kernel_rfl
theorem runHigh4 : isTrue (runN (.int .i64 4) (aHigh 4) (.anyi .i64)) = true := by kernel_rfl
theorem runLow4x1 : isTrue (runN (.int .i64 4) (.int .i64 1) (aLow 2)) = true := by kernel_rfl
theorem runHigh4x1 : isTrue (runN (.int .i64 4) (.int .i64 1) (aHigh 65)) = true := by kernel_rfl
theorem runMid4x1 : isTrue (runN (.int .i64 4) (.int .i64 1) (aMid 3 64)) = true := by kernel_rfl
theorem runLow4x2 : isTrue (runN (.int .i64 4) (.int .i64 2) (aLow 3)) = true := by kernel_rfl
theorem runHigh4x2 : isTrue (runN (.int .i64 4) (.int .i64 2) (aHigh 65)) = true := by kernel_rfl
theorem runMid4x2 : isTrue (runN (.int .i64 4) (.int .i64 2) (aMid 4 64)) = true := by kernel_rfl
theorem runLow4x3 : isTrue (runN (.int .i64 4) (.int .i64 3) (aLow 4)) = true := by kernel_rfl
theorem runHigh4x3 : isTrue (runN (.int .i64 4) (.int .i64 3) (aHigh 65)) = true := by kernel_rfl
theorem runMid4x3 : isTrue (runN (.int .i64 4) (.int .i64 3) (aMid 5 64)) = true := by kernel_rfl
/-- One name, for a number. -/
def phi1 (z : Nat) : Phi := fun b => if b = 0 then some (0, z) else none
theorem aLow_ok {c v : Int} (h1 : -9223372036854775808 ≤ v) (h2 : v ≤ c) : VR (phi1 (c - v).toNat) (aLow c) (.int .i64 v) :=
  .tok (q := 0) (z := (c - v).toNat) .i64 true c _ _ v rfl (by rw [if_pos rfl]; omega) h1 h2
theorem aHigh_ok {c v : Int} (h1 : c ≤ v) (h2 : v ≤ 9223372036854775807) : VR (phi1 (v - c).toNat) (aHigh c) (.int .i64 v) :=
  .tok (q := 0) (z := (v - c).toNat) .i64 false c _ _ v rfl (by rw [if_neg (by decide)]; omega) h1 h2
theorem aMid_ok {lo hi v : Int} (h0 : 0 ≤ lo) (h1 : lo ≤ v) (h2 : v ≤ hi) : VR (phi1 v.toNat) (aMid lo hi) (.int .i64 v) :=
  .tok (q := 0) (z := v.toNat) .i64 false 0 _ _ v rfl (by rw [if_neg (by decide)]; omega) h1 h2
abbrev Good (W : World) (a d l s : Int) : Prop := Calls Tryz.prog 3 #[.agg #[.int .i64 a, .int .i64 d, .int .i64 l], .int .i64 s] W fun e w' => e = .returned (.bool true) ∧ RowKit.Below W.heap.size W w'
theorem good_of {xa xd xl : AV} (h : isTrue (runN xa xd xl) = true) {W : World} (hW : 0 < W.heap.size) {a d l : Int} (s : Int) (z : Nat) (ha : VR (phi1 z) xa (.int .i64 a)) (hd : VR (phi1 z) xd (.int .i64 d)) (hl : VR (phi1 z) xl (.int .i64 l)) : Good W a d l s := by
  unfold isTrue at h
  split at h
  · rename_i b ah2 hr
    cases h
    have hj := (runJ_ok Cn_ok 1000 _ _ hr).2 (show orcA 3 = none by kernel_rfl)
    have h0 : HR (phi1 z) ⟨1, .leaf⟩ W := ⟨fun _ _ _ _ e => (by cases e), fun _ _ _ _ _ _ _ e => (by cases e), fun b c z2 e => by
      unfold phi1 at e
      split at e
      · rename_i hb
        cases e
        exact ⟨by show b < 1; omega, hW⟩
      · cases e⟩
    obtain ⟨_, hc⟩ := hj (phi1 z) W #[.agg #[.int .i64 a, .int .i64 d, .int .i64 l], .int .i64 s] (fun _ _ e => (by cases e)) h0
      (.cons (.agg (a := #[.int .i64 a, .int .i64 d, .int .i64 l]) (.cons ha (.cons hd (.cons hl .nil))) (by simp [Value.oneCell'])) (.cons (.anyi .i64 s) .nil))
    refine (callsIn_wide.1 hc).mono fun e w' he => ?_
    cases e with
    | returned v =>
      obtain ⟨ψ, k, kv⟩ := he
      cases kv
      exact ⟨rfl, ⟨k.env.1, k.env.2.1, k.env.2.2, k.out.1, fun c hc => k.out.2 c hc fun b o z e => by cases e⟩⟩
    | _ => exact he.elim
  · cases h
/-- For every geometry and every slot. -/
theorem treenils_any (a d l s : Int) (W : World) (hW : 0 < W.heap.size) (ha1 : -9223372036854775808 ≤ a) (ha2 : a ≤ 9223372036854775807) (hd1 : -9223372036854775808 ≤ d) (hd2 : d ≤ 9223372036854775807) (hl1 : -9223372036854775808 ≤ l) (hl2 : l ≤ 9223372036854775807) : Good W a d l s := by
  by_cases c1 : a ≤ 1
  · exact good_of runLow hW s _ (aLow_ok ha1 c1) (.anyi ..) (.anyi ..)
  by_cases c2 : 5 ≤ a
  · exact good_of runHigh hW s _ (aHigh_ok c2 ha2) (.anyi ..) (.anyi ..)
  have c3 : a = 2 ∨ a = 3 ∨ a = 4 := by omega
  rcases c3 with rfl | rfl | rfl
  · by_cases e1 : d ≤ 0
    · exact good_of runLow2 hW s _ (.int ..) (aLow_ok hd1 e1) (.anyi ..)
    by_cases e2 : 4 ≤ d
    · exact good_of runHigh2 hW s _ (.int ..) (aHigh_ok e2 hd2) (.anyi ..)
    have e3 : d = 1 ∨ d = 2 ∨ d = 3 := by omega
    rcases e3 with rfl | rfl | rfl
    · by_cases f1 : l ≤ 2
      · exact good_of runLow2x1 hW s _ (.int ..) (.int ..) (aLow_ok hl1 f1)
      by_cases f2 : 65 ≤ l
      · exact good_of runHigh2x1 hW s _ (.int ..) (.int ..) (aHigh_ok f2 hl2)
      exact good_of runMid2x1 hW s _ (.int ..) (.int ..) (aMid_ok (by decide) (show (3 : Int) ≤ l by omega) (show l ≤ 64 by omega))
    · by_cases f1 : l ≤ 3
      · exact good_of runLow2x2 hW s _ (.int ..) (.int ..) (aLow_ok hl1 f1)
      by_cases f2 : 65 ≤ l
      · exact good_of runHigh2x2 hW s _ (.int ..) (.int ..) (aHigh_ok f2 hl2)
      exact good_of runMid2x2 hW s _ (.int ..) (.int ..) (aMid_ok (by decide) (show (4 : Int) ≤ l by omega) (show l ≤ 64 by omega))
    · by_cases f1 : l ≤ 4
      · exact good_of runLow2x3 hW s _ (.int ..) (.int ..) (aLow_ok hl1 f1)
      by_cases f2 : 65 ≤ l
      · exact good_of runHigh2x3 hW s _ (.int ..) (.int ..) (aHigh_ok f2 hl2)
      exact good_of runMid2x3 hW s _ (.int ..) (.int ..) (aMid_ok (by decide) (show (5 : Int) ≤ l by omega) (show l ≤ 64 by omega))
  · by_cases e1 : d ≤ 0
    · exact good_of runLow3 hW s _ (.int ..) (aLow_ok hd1 e1) (.anyi ..)
    by_cases e2 : 4 ≤ d
    · exact good_of runHigh3 hW s _ (.int ..) (aHigh_ok e2 hd2) (.anyi ..)
    have e3 : d = 1 ∨ d = 2 ∨ d = 3 := by omega
    rcases e3 with rfl | rfl | rfl
    · by_cases f1 : l ≤ 2
      · exact good_of runLow3x1 hW s _ (.int ..) (.int ..) (aLow_ok hl1 f1)
      by_cases f2 : 65 ≤ l
      · exact good_of runHigh3x1 hW s _ (.int ..) (.int ..) (aHigh_ok f2 hl2)
      exact good_of runMid3x1 hW s _ (.int ..) (.int ..) (aMid_ok (by decide) (show (3 : Int) ≤ l by omega) (show l ≤ 64 by omega))
    · by_cases f1 : l ≤ 3
      · exact good_of runLow3x2 hW s _ (.int ..) (.int ..) (aLow_ok hl1 f1)
      by_cases f2 : 65 ≤ l
      · exact good_of runHigh3x2 hW s _ (.int ..) (.int ..) (aHigh_ok f2 hl2)
      exact good_of runMid3x2 hW s _ (.int ..) (.int ..) (aMid_ok (by decide) (show (4 : Int) ≤ l by omega) (show l ≤ 64 by omega))
    · by_cases f1 : l ≤ 4
      · exact good_of runLow3x3 hW s _ (.int ..) (.int ..) (aLow_ok hl1 f1)
      by_cases f2 : 65 ≤ l
      · exact good_of runHigh3x3 hW s _ (.int ..) (.int ..) (aHigh_ok f2 hl2)
      exact good_of runMid3x3 hW s _ (.int ..) (.int ..) (aMid_ok (by decide) (show (5 : Int) ≤ l by omega) (show l ≤ 64 by omega))
  · by_cases e1 : d ≤ 0
    · exact good_of runLow4 hW s _ (.int ..) (aLow_ok hd1 e1) (.anyi ..)
    by_cases e2 : 4 ≤ d
    · exact good_of runHigh4 hW s _ (.int ..) (aHigh_ok e2 hd2) (.anyi ..)
    have e3 : d = 1 ∨ d = 2 ∨ d = 3 := by omega
    rcases e3 with rfl | rfl | rfl
    · by_cases f1 : l ≤ 2
      · exact good_of runLow4x1 hW s _ (.int ..) (.int ..) (aLow_ok hl1 f1)
      by_cases f2 : 65 ≤ l
      · exact good_of runHigh4x1 hW s _ (.int ..) (.int ..) (aHigh_ok f2 hl2)
      exact good_of runMid4x1 hW s _ (.int ..) (.int ..) (aMid_ok (by decide) (show (3 : Int) ≤ l by omega) (show l ≤ 64 by omega))
    · by_cases f1 : l ≤ 3
      · exact good_of runLow4x2 hW s _ (.int ..) (.int ..) (aLow_ok hl1 f1)
      by_cases f2 : 65 ≤ l
      · exact good_of runHigh4x2 hW s _ (.int ..) (.int ..) (aHigh_ok f2 hl2)
      exact good_of runMid4x2 hW s _ (.int ..) (.int ..) (aMid_ok (by decide) (show (4 : Int) ≤ l by omega) (show l ≤ 64 by omega))
    · by_cases f1 : l ≤ 4
      · exact good_of runLow4x3 hW s _ (.int ..) (.int ..) (aLow_ok hl1 f1)
      by_cases f2 : 65 ≤ l
      · exact good_of runHigh4x3 hW s _ (.int ..) (.int ..) (aHigh_ok f2 hl2)
      exact good_of runMid4x3 hW s _ (.int ..) (.int ..) (aMid_ok (by decide) (show (5 : Int) ≤ l by omega) (show l ≤ 64 by omega))
end
end Go.Proofs.YtpmlofbpiajkbaaGreatDoor.M2
