/- A name's parts, and names compared. Names compared; heads compared. -/
import Derived.Test.YtmonfmmcgfmeeaaGreatDoorShC
import Derived.Test.YtmonfmmcgfmeeaaGreatDoorNm5
import Derived.Test.YtmonfmmcgfmeeaaGreatDoorCp
import Derived.Test.YtmonfmmcgfmeeaaGreatDoorAl
import Derived.Test.YtmonfmmcgfmeeaaGreatDoorOr
namespace Go.Proofs.YtmonfmmcgfmeeaaGreatDoor.Lf
open Go.RowKit Go.Shelf Go.Proofs.YtmonfmmcgfmeeaaGreatDoorW.PrintWords
set_option linter.unusedVariables false
set_option linter.unusedSimpArgs false

theorem info9b : (Tryz.prog.info? 9).map (fun i => (i.zero, i.size, i.bytes)) = some (some (.string ByteArray.empty), 1, 16) := by kernel_rfl

set_option maxHeartbeats 1000000 in
theorem split_any (s : ByteArray) (m : Int) (w : World) (hs : s.size ≤ 1000000) (hT : Lib.Utf8Tabs 0 1 w) (hm : w.cell? ⟨2, 0, none⟩ = some (.int .i64 m)) (hr : Nm.rightB s = true) :
    Calls Tryz.prog 67 #[.string s] w fun e w' => ∃ b, e = .returned (.slice (some ⟨b, 0, none⟩) (Nm.pieces s).length (Nm.pieces s).length) ∧ Kd.C Kd.string w' (some ⟨b, 0, none⟩) (Nm.pieces s).length (Nm.pieces s) ∧ Below w.heap.size w w' := by
  have HRight := Aside0.mk (Nm.right_any s w (by omega) hT)
  rw [hr] at HRight
  have HSplit := Aside0.mk (fun W (hb : Below w.heap.size w W) => Any.strings_Split Tryz.lays146 info9b s Nm.dot m W (by omega) (pw_cell_below hb hm) (by decide))
  unfold Nm.dot at HSplit
  clear hr hT hm
  go_enter Tryz.func67, Tryz.ntmps67
  go_wp2_with (first
    | (go_at_call 29; refine HRight.out.mono ?_; rintro e w1 ⟨rfl, hb⟩; have HB := Aside0.mk hb; clear hb)
    | (go_at_call 86; go_loud (refine (HSplit.out _ HB.out).mono ?_); rintro e w2 ⟨rfl, rfl⟩))
  go_ret
  have hlen : Lib.countB s Nm.dot + 1 = (Nm.pieces s).length := (Lib.splitB_all Nm.dot (by decide) 0 _ s rfl).symm
  refine ⟨w1.heap.size, ?_, ?_, below_step HB.out (below_alloc (Below.refl _ _) _)⟩
  · rw [← hlen]; rfl
  · exact strs_new (blk_new w1 _) (by have := Nm.pieces_le s; omega)
set_option maxHeartbeats 2000000 in
set_option maxRecDepth 100000 in
theorem both_any (a b : ByteArray) (m : Int) (w : World) (ha : a.size ≤ 1000000) (hb : b.size ≤ 1000000) (hT : Lib.Utf8Tabs 0 1 w) (hm : w.cell? ⟨2, 0, none⟩ = some (.int .i64 m)) (hra : Nm.rightB a = true) (hrb : Nm.rightB b = true) :
    Calls Tryz.prog 52 #[.string a, .string b] w fun e w' => ∃ g h, e = .returned (.tuple #[.slice (some ⟨g, 0, none⟩) (Nm.pieces a).length (Nm.pieces a).length, .slice (some ⟨h, 0, none⟩) (Nm.pieces b).length (Nm.pieces b).length]) ∧ Kd.C Kd.string w' (some ⟨g, 0, none⟩) (Nm.pieces a).length (Nm.pieces a) ∧ Kd.C Kd.string w' (some ⟨h, 0, none⟩) (Nm.pieces b).length (Nm.pieces b) ∧ Below w.heap.size w w' := by
  have HA := Aside0.mk (split_any a m w ha hT hm hra)
  have HBb := Aside0.mk (fun W (hw : Below w.heap.size w W) => split_any b m W hb (Utf8Tabs_below hT hw) (pw_cell_below hw hm) hrb)
  clear hT hm hra hrb
  have q22 : ∀ (w : World) (a : Option Addr) (n c n' c' : Nat), (binOp .eql 22 (.slice a n c) (.slice none n' c')).run Tryz.prog w = .ok (.bool a.isNone) w := fun w a n c n' c' => Lib.run_eql_slice_nil w _ _ a n c n' c' Tryz.underlying22
  go_enter Tryz.func52, Tryz.ntmps52
  go_wp2_with (first
    | (go_at_call_of 67 (Value.string a); refine HA.out.mono ?_; rintro e w1 ⟨g, rfl, hC1, hb1⟩; have HC1 := Aside0.mk hC1; have HB1 := Aside0.mk hb1; clear hC1 hb1)
    | (go_at_call_of 67 (Value.string b); refine (HBb.out _ HB1.out).mono ?_; rintro e w2 ⟨h, rfl, hC2, hb2⟩; have HC2 := Aside0.mk hC2; have HC3 := Aside0.mk (Kd.C_below HC1.out hb2); have HB2 := Aside0.mk (below_step HB1.out hb2); clear hC2 hb2))
  go_ret2
  exact ⟨g, h, rfl, HC3.out, HC2.out, HB2.out⟩
end Go.Proofs.YtmonfmmcgfmeeaaGreatDoor.Lf

namespace Go.Proofs.YtmonfmmcgfmeeaaGreatDoor.Lf
open Go.RowKit Go.Shelf Go.Proofs.YtmonfmmcgfmeeaaGreatDoorW.PrintWords
set_option linter.unusedVariables false
set_option linter.unusedSimpArgs false

theorem below_drawn0 {B : Nat} {w W W' : World} (h : Below B w W) (hd : Drawn0 W W') : Below B w W' := by
  obtain ⟨q, rfl⟩ := hd
  exact pw_below_drewN h q

set_option maxHeartbeats 2000000 in
set_option maxRecDepth 100000 in
theorem namecmp_any (a b : ByteArray) (m : Int) (w : World) (ha : a.size ≤ 1000000) (hb : b.size ≤ 1000000) (hT : Lib.Utf8Tabs 0 1 w) (hm : w.cell? ⟨2, 0, none⟩ = some (.int .i64 m)) (hra : Nm.rightB a = true) (hrb : Nm.rightB b = true) :
    Calls Tryz.prog 30 #[.string a, .string b] w fun e w' => e = .returned (.int .i64 (cmpL (Nm.pieces a) (Nm.pieces b))) ∧ Below w.heap.size w w' := by
  have HB := Aside0.mk (both_any a b m w ha hb hT hm hra hrb)
  have HS := Aside0.mk (fun (W : World) (g h : Nat) (h1 : Kd.C Kd.string W (some ⟨g, 0, none⟩) (Nm.pieces a).length (Nm.pieces a)) (h2 : Kd.C Kd.string W (some ⟨h, 0, none⟩) (Nm.pieces b).length (Nm.pieces b)) => slcompare_any (some ⟨g, 0, none⟩) (Nm.pieces a).length (Nm.pieces a) (some ⟨h, 0, none⟩) (Nm.pieces b).length (Nm.pieces b) W h1 h2)
  clear hT hm hra hrb
  generalize Nm.pieces a = x at HB HS ⊢
  generalize Nm.pieces b = y at HB HS ⊢
  go_enter Tryz.func30, Tryz.ntmps30
  go_wp2_with (first
    | (go_at_call 52; refine HB.out.mono ?_; rintro e w1 ⟨g, h, rfl, hC1, hC2, hb1⟩; have HC1 := Aside0.mk hC1; have HC2 := Aside0.mk hC2; have HB1 := Aside0.mk hb1; clear hC1 hC2 hb1)
    | (go_at_call 51; refine (HS.out _ _ _ HC1.out HC2.out).mono ?_; rintro e w2 ⟨rfl, hd⟩; have HD := Aside0.mk hd; clear hd))
  go_ret
  exact ⟨rfl, below_drawn0 HB1.out HD.out⟩

set_option maxHeartbeats 2000000 in
set_option maxRecDepth 100000 in
theorem order_any (a b : ByteArray) (m : Int) (w : World) (ha : a.size ≤ 1000000) (hb : b.size ≤ 1000000) (hT : Lib.Utf8Tabs 0 1 w) (hm : w.cell? ⟨2, 0, none⟩ = some (.int .i64 m)) :
    Calls Tryz.prog 20 #[.string a, .string b] w fun e w' => e = .returned (.int .i64 (orderI a b)) ∧ Below w.heap.size w w' := by
  have HRa := Aside0.mk (Nm.right_any a w (by omega) hT)
  have HRb := Aside0.mk (fun W (hw : Below w.heap.size w W) => Nm.right_any b W (by omega) (Utf8Tabs_below hT hw))
  have HCm := fun (hra : Nm.rightB a = true) (hrb : Nm.rightB b = true) => Aside0.mk (fun W (hw : Below w.heap.size w W) => namecmp_any a b m W ha hb (Utf8Tabs_below hT hw) (pw_cell_below hw hm) hra hrb)
  have HCc := Aside0.mk (fun W => compare_any a b W)
  have hO : orderI a b = if Nm.rightB a && Nm.rightB b then cmpL (Nm.pieces a) (Nm.pieces b) else if Nm.rightB a then 1 else if Nm.rightB b then -1 else cmpS a b := rfl
  rw [hO]
  clear hO hT hm
  cases hra : Nm.rightB a <;> cases hrb : Nm.rightB b
  all_goals
    rw [hra] at HRa
    rw [hrb] at HRb
  · clear HCm hra hrb
    generalize cmpS a b = r at HCc ⊢
    go_enter Tryz.func20, Tryz.ntmps20
    go_wp2_with (first
      | (go_at_call_of 29 (Value.string a); refine HRa.out.mono ?_; rintro e w1 ⟨rfl, hb1⟩; have HB1 := Aside0.mk hb1; clear hb1)
      | (go_at_call_of 29 (Value.string b); refine (HRb.out _ HB1.out).mono ?_; rintro e w2 ⟨rfl, hb2⟩; have HB2 := Aside0.mk (below_step HB1.out hb2); clear hb2)
      | (go_at_call 31; refine (HCc.out _).mono ?_; rintro e w3 ⟨rfl, hd⟩; have HD := Aside0.mk hd; clear hd))
    go_ret
    exact ⟨by simp, below_drawn0 HB2.out HD.out⟩
  · clear HCm hra hrb
    go_enter Tryz.func20, Tryz.ntmps20
    go_wp2_with (first
      | (go_at_call_of 29 (Value.string a); refine HRa.out.mono ?_; rintro e w1 ⟨rfl, hb1⟩; have HB1 := Aside0.mk hb1; clear hb1)
      | (go_at_call_of 29 (Value.string b); refine (HRb.out _ HB1.out).mono ?_; rintro e w2 ⟨rfl, hb2⟩; have HB2 := Aside0.mk (below_step HB1.out hb2); clear hb2))
    go_ret
    exact ⟨by simp, HB2.out⟩
  · clear HCm hra hrb
    go_enter Tryz.func20, Tryz.ntmps20
    go_wp2_with (first
      | (go_at_call_of 29 (Value.string a); refine HRa.out.mono ?_; rintro e w1 ⟨rfl, hb1⟩; have HB1 := Aside0.mk hb1; clear hb1)
      | (go_at_call_of 29 (Value.string b); refine (HRb.out _ HB1.out).mono ?_; rintro e w2 ⟨rfl, hb2⟩; have HB2 := Aside0.mk (below_step HB1.out hb2); clear hb2))
    go_ret
    exact ⟨by simp, HB2.out⟩
  · have HC := HCm hra hrb
    clear HCm hra hrb
    generalize cmpL (Nm.pieces a) (Nm.pieces b) = r at HC ⊢
    go_enter Tryz.func20, Tryz.ntmps20
    go_wp2_with (first
      | (go_at_call_of 29 (Value.string a); refine HRa.out.mono ?_; rintro e w1 ⟨rfl, hb1⟩; have HB1 := Aside0.mk hb1; clear hb1)
      | (go_at_call_of 29 (Value.string b); refine (HRb.out _ HB1.out).mono ?_; rintro e w2 ⟨rfl, hb2⟩; have HB2 := Aside0.mk (below_step HB1.out hb2); clear hb2)
      | (go_at_call 30; refine (HC.out _ HB2.out).mono ?_; rintro e w3 ⟨rfl, hb3⟩; have HB3 := Aside0.mk (below_step HB2.out hb3); clear hb3))
    go_ret
    exact ⟨by simp, HB3.out⟩
end Go.Proofs.YtmonfmmcgfmeeaaGreatDoor.Lf
