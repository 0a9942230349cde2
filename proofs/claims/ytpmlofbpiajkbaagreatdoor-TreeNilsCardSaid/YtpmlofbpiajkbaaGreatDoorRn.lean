/- Runs of the chapter's example, in parts. -/
import Derived.Test.YtpmlofbpiajkbaaGreatDoorCf
import Derived.Test.YtpmlofbpiajkbaaGreatDoorHp
import Derived.KernelRfl
set_option linter.unusedVariables false
set_option maxRecDepth 1000000
namespace Go.Proofs.YtpmlofbpiajkbaaGreatDoor.M2
open Go
noncomputable section
theorem runFormat : chkR (runJ C0 3000 (.call 10 [.ptr 2 0, .ptr 6 0, gV] (mkH 7 H0))) (.tup [.ptr 58 0, .int .i64 0]) 690 H1 = true := by kernel_rfl
theorem runApply : chkR (runJ C0 3000 (.call 12 [.ptr 58 0, .slice 691 0 1 (.known 1)] (mkH 692 H1a))) (.int .i64 0) 1557 H2 = true := by kernel_rfl
theorem runStore : chkR (runJ C0 3000 (.call 23 [.ptr 2 0, .ptr 6 0, gV] (mkH 1579 H2b))) (.tup [.ptr 1598 0, .int .i64 0]) 2497 H2c = true := by kernel_rfl
def orc1 (f : Nat) : Option (List AV → AH → Option (AV × AH)) := cnd (Nat.beq f 23) (some (partG [.ptr 2 0, .ptr 6 0, gV] 1579 H2b (.tup [.ptr 1598 0, .int .i64 0]) 2497 H2c)) (orc0 f)
def C1 : Cfg := cfgW orc1
theorem C1_ok : CfgOk C1 := cfgW_ok fun f g h args ah v ah' e => by
  unfold orc1 at h
  rw [cnd_eq] at h
  split at h
  · rename_i hf
    cases h
    rw [Nat.eq_of_beq_eq_true hf]
    exact part_ok C0_ok runStore e
  · exact orc0_ok _ f g h args ah v ah' e
theorem runOpen : chkR (runJ C1 3000 (.call 9 [.ptr 2 0, .ptr 6 0, gV] (mkH 1557 H2))) (.tup [.ptr 1576 0, .int .i64 0]) 3380 H3 = true := by kernel_rfl
def orc2 (f : Nat) : Option (List AV → AH → Option (AV × AH)) :=
  cnd (Nat.beq f 10) (some (partG [.ptr 2 0, .ptr 6 0, gV] 7 H0 (.tup [.ptr 58 0, .int .i64 0]) 690 H1)) <|
  cnd (Nat.beq f 12) (some (partG [.ptr 58 0, .slice 691 0 1 (.known 1)] 692 H1a (.int .i64 0) 1557 H2)) <|
  cnd (Nat.beq f 9) (some (partG [.ptr 2 0, .ptr 6 0, gV] 1557 H2 (.tup [.ptr 1576 0, .int .i64 0]) 3380 H3)) (orc0 f)
def C2 : Cfg := cfgW orc2
theorem C2_ok : CfgOk C2 := cfgW_ok fun f g h args ah v ah' e => by
  unfold orc2 at h
  simp only [cnd_eq] at h
  split at h
  · rename_i hf
    cases h
    rw [Nat.eq_of_beq_eq_true hf]
    exact part_ok C0_ok runFormat e
  · split at h
    · rename_i hf
      cases h
      rw [Nat.eq_of_beq_eq_true hf]
      exact part_ok C0_ok runApply e
    · split at h
      · rename_i hf
        cases h
        rw [Nat.eq_of_beq_eq_true hf]
        exact part_ok C1_ok runOpen e
      · exact orc0_ok _ f g h args ah v ah' e
theorem runAlive : chkR (runJ C2 3000 (.call 5 [] ⟨0, .leaf⟩)) (.bool true) 3711 [] = true := by kernel_rfl
end
end Go.Proofs.YtpmlofbpiajkbaaGreatDoor.M2
