/- What the row tells of the program, in parts. -/
import Derived.Test.YtpmlofbpiajkbaaGreatDoorRows
import Derived.JoinedCond
import Derived.KernelRfl
namespace Go.Proofs.YtpmlofbpiajkbaaGreatDoor.treeNils
theorem j1 : Tryz.prog.unfollowed 3 = true := by kernel_rfl
theorem j2 : Tryz.prog.varsNamed 3 = Rows.treeNilsRow.named := by kernel_rfl
theorem j3 : Tryz.prog.inPlace 3 = Rows.treeNilsRow.inPlace := by kernel_rfl
theorem j4 : Tryz.prog.recurses 3 = true := by unfold Program.recurses; rw [j1]; rfl
theorem closed : joinedFacts Tryz.prog 3 Tryz.f3 (OpenSpec.ofChange Rows.treeNilsSpec).bare Rows.treeNilsRow = true := by
  unfold joinedFacts
  rw [j1, j2, j3, j4]
  kernel_rfl
end Go.Proofs.YtpmlofbpiajkbaaGreatDoor.treeNils
