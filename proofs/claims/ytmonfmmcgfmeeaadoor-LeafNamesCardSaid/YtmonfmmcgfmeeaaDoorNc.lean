/- A name's parts, and names compared. -/
import Derived.Test.YtmonfmmcgfmeeaaDoorShC
import Derived.Test.YtmonfmmcgfmeeaaDoorNm5
import Derived.Test.YtmonfmmcgfmeeaaDoorCp
import Derived.Test.YtmonfmmcgfmeeaaDoorAl
namespace Go.Proofs.YtmonfmmcgfmeeaaDoor.Lf
open Go.RowKit Go.Shelf Go.Proofs.YtmonfmmcgfmeeaaDoorW.PrintWords
set_option linter.unusedVariables false
set_option linter.unusedSimpArgs false

theorem info9b : (Tryd.prog.info? 9).map (fun i => (i.zero, i.size, i.bytes)) = some (some (.string ByteArray.empty), 1, 16) := by kernel_rfl

set_option maxHeartbeats 1000000 in
theorem split_any (s : ByteArray) (m : Int) (w : World) (hs : s.size ≤ 1000000) (hT : Lib.Utf8Tabs 0 1 w) (hm : w.cell? ⟨2, 0, none⟩ = some (.int .i64 m)) (hr : Nm.rightB s = true) :
    Calls Tryd.prog 68 #[.string s] w fun e w' => ∃ b, e = .returned (.slice (some ⟨b, 0, none⟩) (Nm.pieces s).length (Nm.pieces s).length) ∧ Kd.C Kd.string w' (some ⟨b, 0, none⟩) (Nm.pieces s).length (Nm.pieces s) ∧ Below w.heap.size w w' := by
  have HRight := Aside0.mk (Nm.right_any s w (by omega) hT)
  rw [hr] at HRight
  have HSplit := Aside0.mk (fun W (hb : Below w.heap.size w W) => Any.strings_Split Tryd.lays146 info9b s Nm.dot m W (by omega) (pw_cell_below hb hm) (by decide))
  unfold Nm.dot at HSplit
  clear hr hT hm
  go_enter Tryd.func68, Tryd.ntmps68
  go_wp2_with (first
    | (go_at_call 23; refine HRight.out.mono ?_; rintro e w1 ⟨rfl, hb⟩; have HB := Aside0.mk hb; clear hb)
    | (go_at_call 80; go_loud (refine (HSplit.out _ HB.out).mono ?_); rintro e w2 ⟨rfl, rfl⟩))
  go_ret
  have hlen : Lib.countB s Nm.dot + 1 = (Nm.pieces s).length := (Lib.splitB_all Nm.dot (by decide) 0 _ s rfl).symm
  refine ⟨w1.heap.size, ?_, ?_, below_step HB.out (below_alloc (Below.refl _ _) _)⟩
  · rw [← hlen]; rfl
  · exact strs_new (blk_new w1 _) (by have := Nm.pieces_le s; omega)
set_option maxHeartbeats 2000000 in
set_option maxRecDepth 100000 in
theorem both_any (a b : ByteArray) (m : Int) (w : World) (ha : a.size ≤ 1000000) (hb : b.size ≤ 1000000) (hT : Lib.Utf8Tabs 0 1 w) (hm : w.cell? ⟨2, 0, none⟩ = some (.int .i64 m)) (hra : Nm.rightB a = true) (hrb : Nm.rightB b = true) :
    Calls Tryd.prog 49 #[.string a, .string b] w fun e w' => ∃ g h, e = .returned (.tuple #[.slice (some ⟨g, 0, none⟩) (Nm.pieces a).length (Nm.pieces a).length, .slice (some ⟨h, 0, none⟩) (Nm.pieces b).length (Nm.pieces b).length]) ∧ Kd.C Kd.string w' (some ⟨g, 0, none⟩) (Nm.pieces a).length (Nm.pieces a) ∧ Kd.C Kd.string w' (some ⟨h, 0, none⟩) (Nm.pieces b).length (Nm.pieces b) ∧ Below w.heap.size w w' := by
  have HA := Aside0.mk (split_any a m w ha hT hm hra)
  have HBb := Aside0.mk (fun W (hw : Below w.heap.size w W) => split_any b m W hb (Utf8Tabs_below hT hw) (pw_cell_below hw hm) hrb)
  clear hT hm hra hrb
  have q22 : ∀ (w : World) (a : Option Addr) (n c n' c' : Nat), (binOp .eql 22 (.slice a n c) (.slice none n' c')).run Tryd.prog w = .ok (.bool a.isNone) w := fun w a n c n' c' => Lib.run_eql_slice_nil w _ _ a n c n' c' Tryd.underlying22
  go_enter Tryd.func49, Tryd.ntmps49
  go_wp2_with (first
    | (go_at_call_of 68 (Value.string a); refine HA.out.mono ?_; rintro e w1 ⟨g, rfl, hC1, hb1⟩; have HC1 := Aside0.mk hC1; have HB1 := Aside0.mk hb1; clear hC1 hb1)
    | (go_at_call_of 68 (Value.string b); refine (HBb.out _ HB1.out).mono ?_; rintro e w2 ⟨h, rfl, hC2, hb2⟩; have HC2 := Aside0.mk hC2; have HC3 := Aside0.mk (Kd.C_below HC1.out hb2); have HB2 := Aside0.mk (below_step HB1.out hb2); clear hC2 hb2))
  go_ret2
  exact ⟨g, h, rfl, HC3.out, HC2.out, HB2.out⟩
end Go.Proofs.YtmonfmmcgfmeeaaDoor.Lf
