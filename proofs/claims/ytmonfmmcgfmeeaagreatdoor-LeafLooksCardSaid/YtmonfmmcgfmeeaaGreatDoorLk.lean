/- LeafLooks: the walk. -/
import Derived.Test.YtmonfmmcgfmeeaaGreatDoorNa
import Derived.Test.YtmonfmmcgfmeeaaGreatDoorLf2
import Derived.Test.YtmonfmmcgfmeeaaGreatDoorAl
import Derived.Test.YtmonfmmcgfmeeaaGreatDoorRp
namespace Go.Proofs.YtmonfmmcgfmeeaaGreatDoor.Lf
open Go.RowKit Go.Shelf Go.Proofs.YtmonfmmcgfmeeaaGreatDoor.Pl Go.Proofs.YtmonfmmcgfmeeaaGreatDoorW.PrintWords Go.ChangeMaps
set_option linter.unusedVariables false
set_option linter.unusedSimpArgs false

set_option maxHeartbeats 4000000 in
set_option maxRecDepth 100000 in
theorem leaflooks_any (A0 : Option Addr) (c0 : Nat) (heads : List ByteArray) (s : ByteArray) (mx : Int) (w : World)
    (hr0 : Kd.C Kd.string w A0 heads.length heads) (hc0 : heads.length ≤ c0) (hT : Lib.Utf8Tabs 0 1 w) (hmx : w.cell? ⟨2, 0, none⟩ = some (.int .i64 mx)) :
    Calls Tryz.prog 3 #[.slice A0 heads.length c0, .string s] w fun e w' => e = .returned (.bool true) ∧ Below w.heap.size w w' := by
  have HLight : Aside0 (Calls Tryz.prog 4 #[.slice A0 heads.length c0, .slice none 0 0] w fun e w' => e = .returned (.bool (lightB heads [])) ∧ Drawn0 w w') := ⟨light_any A0 c0 heads none 0 [] w hr0 hc0 ⟨rfl, by simp, fun h => absurd h (by simp)⟩ (Nat.le_refl _)⟩
  have HAlive := Aside0.mk (fun W (hb : Below w.heap.size w W) => alive_any W (Utf8Tabs_below hT hb))
  have HR0 := Aside0.mk hr0
  have HC0 := Aside0.mk hc0
  have HT := Aside0.mk hT
  have HMX := Aside0.mk hmx
  clear hr0 hT hc0 hmx
  cases hl : lightB heads []
  · rw [hl] at HLight
    clear hl
    go_enter Tryz.func3, Tryz.ntmps3
    go_wp2_with (first
      | (go_at_call 4; refine HLight.out.mono ?_; rintro e w' ⟨rfl, ⟨nd, rfl⟩⟩)
      | (go_at_call 5; refine (HAlive.out _ (pw_below_drewN (Below.refl _ _) _)).mono ?_; rintro e w' ⟨rfl, hb⟩; have HB := Aside0.mk hb; clear hb))
    go_ret
    exact ⟨rfl, below_step (pw_below_drewN (Below.refl _ _) _) HB.out⟩
  · rw [hl] at HLight
    unfold lightB at hl
    simp only [Bool.and_eq_true, decide_eq_true_eq, List.all_eq_true] at hl
    obtain ⟨hl1, hl2, hl3, hl4⟩ := hl
    have HL1 := Aside0.mk hl1
    have HL3 := Aside0.mk hl3
    clear hl2 hl3 hl4
    by_cases hs : 100 < s.size
    · have h1 : decide ((100 : Int) < (s.size : Int)) = true := decide_eq_true (by omega)
      have h2 : decide (100 < s.size) = true := decide_eq_true hs
      clear hs
      go_enter Tryz.func3, Tryz.ntmps3
      go_wp2_with (first
        | (go_at_call 4; refine HLight.out.mono ?_; rintro e w' ⟨rfl, ⟨nd, rfl⟩⟩)
        | (go_at_call 5; refine (HAlive.out _ (pw_below_drewN (Below.refl _ _) _)).mono ?_; rintro e w' ⟨rfl, hb⟩; have HB := Aside0.mk hb; clear hb))
      go_ret
      exact ⟨rfl, below_step (pw_below_drewN (Below.refl _ _) _) HB.out⟩
    · have h1 : decide ((100 : Int) < (s.size : Int)) = false := decide_eq_false (by omega)
      have h2 : decide (100 < s.size) = false := decide_eq_false hs
      clear hs
      go_enter Tryz.func3, Tryz.ntmps3
      go_wp2_with (first
        | (go_at_call 4; refine HLight.out.mono ?_; rintro e w' ⟨rfl, ⟨nd, rfl⟩⟩; have HB0 := Aside0.mk (pw_below_drewN (Below.refl w.heap.size w) nd); generalize w.drewN nd = w0 at HB0 ⊢))
      clear h1 h2
      go_loopw [5, 6] (fun v5 v6 wr => ∃ i : Nat, i ≤ heads.length ∧ v6 = .int .i64 i ∧ v5 = .int .i64 (usedI (heads.take i) : Nat) ∧ Aside0 (Below w.heap.size w wr)) (fun _ v6 _ => heads.length - (intOf v6).toNat)
      case atStart => exact ⟨0, Nat.zero_le _, rfl, rfl, HB0⟩
      case round =>
        obtain ⟨i, hi, rfl, rfl, HB⟩ := hrel
        by_cases hlt : i < heads.length
        · obtain ⟨ad, eA, x0⟩ := Kd.at_string (Kd.C_below HR0.out HB.out) (i : Int) (by omega) (by omega)
          have hrd : rdOf ByteArray.empty heads (i : Int) = heads[i] := by rw [rdOf, Int.toNat_natCast, List.getD_eq_getElem?_getD, List.getElem?_eq_getElem hlt]; rfl
          rw [hrd, Int.toNat_natCast] at x0
          have hi1 : IntKind.i64.wrap ((i : Int) + 1) = (i : Int) + 1 := IntWalk.i64_in _ (by omega)
          have htk : usedI (heads.take (i + 1)) = usedI (heads.take i) + (if heads[i].size = 0 then 0 else 1) := by
            unfold usedI
            rw [List.take_succ_eq_append_getElem hlt, List.filter_append, List.length_append]
            by_cases h : heads[i].size = 0
            · rw [if_pos h, List.filter_cons, if_neg (by simpa using h)]; rfl
            · rw [if_neg h, List.filter_cons, if_pos (by simpa using h)]; rfl
          have hub : usedI (heads.take i) ≤ 70 := by
            unfold usedI
            have h1 := List.length_filter_le (fun x : ByteArray => decide (x.size ≠ 0)) (heads.take i)
            rw [List.length_take] at h1
            omega
          obtain ⟨us, hus⟩ : ∃ us, us = usedI (heads.take i) := ⟨_, rfl⟩
          rw [← hus] at htk hub ⊢
          have hu1 : IntKind.i64.wrap ((us : Int) + 1) = (us : Int) + 1 := IntWalk.i64_in _ (by omega)
          have HTK := Aside0.mk htk
          subst eA
          clear hrd hus htk
          generalize heads[i] = x at x0 HTK
          by_cases h0 : x.size = 0
          · have e1 : (x.toList == ([] : List UInt8)) = true := by rw [beq_iff_eq]; exact toList_nil.2 h0
            have e2 : (x.toList != ([] : List UInt8)) = false := by rw [bne_eq_false_iff_eq]; exact toList_nil.2 h0
            have H0 := Aside0.mk h0
            clear h0
            go_wp2
            go_roundw
            case rel => exact ⟨i + 1, by omega, by push_cast; rfl, by rw [HTK.out, if_pos H0.out]; rfl, HB⟩
            case measure => simp [intOf]; omega
          · have e1 : (x.toList == ([] : List UInt8)) = false := by rw [beq_eq_false_iff_ne]; exact fun e => h0 (toList_nil.1 e)
            have e2 : (x.toList != ([] : List UInt8)) = true := by rw [bne_iff_ne]; exact fun e => h0 (toList_nil.1 e)
            have H0 := Aside0.mk h0
            clear h0
            go_wp2
            go_roundw
            case rel => exact ⟨i + 1, by omega, by push_cast; rfl, by rw [HTK.out, if_neg H0.out]; push_cast; rfl, HB⟩
            case measure => simp [intOf]; omega
        · obtain rfl : i = heads.length := by omega
          rw [List.take_length]
          clear hlt hi HLight
          have HF := Aside0.mk (fun W (hb : Below w.heap.size w W) => find_any A0 c0 heads s W (Kd.C_below HR0.out hb) HC0.out)
          have HRF := Aside0.mk (fun W (hb : Below w.heap.size w W) => rfind_any A0 c0 heads s W (Kd.C_below HR0.out hb) HC0.out (by have := HL1.out; omega))
          have HE := Aside0.mk (fun W (hb : Below w.heap.size w W) => free_any A0 c0 heads W (Kd.C_below HR0.out hb) HC0.out)
          have HRE := Aside0.mk (fun W (hb : Below w.heap.size w W) => rfree_any A0 c0 heads W (Kd.C_below HR0.out hb) HC0.out (by have := HL1.out; omega))
          have HU := Aside0.mk (fun W (hb : Below w.heap.size w W) => used_any A0 c0 heads W (by have := HL1.out; omega) (Kd.C_below HR0.out hb) HC0.out)
          have HN := Aside0.mk (fun W (hb : Below w.heap.size w W) => names_any A0 c0 heads mx W (Kd.C_below HR0.out hb) HC0.out (by have := HL1.out; omega) HL3.out (Utf8Tabs_below HT.out hb) (pw_cell_below hb HMX.out))
          have HRN := Aside0.mk (fun W (hb : Below w.heap.size w W) => rnames_any A0 c0 heads W (Kd.C_below HR0.out hb) HC0.out (by have := HL1.out; omega) HL3.out)
          have HWo := Aside0.mk (fun W A c B d (n : List ByteArray) (hn : n.length ≤ 70) (h1 : Kd.C Kd.string W A n.length n) (h2 : n.length ≤ c) (h3 : Kd.C Kd.string W B n.length n) (h4 : n.length ≤ d) => words_any A c n B d n W (by omega) h1 h2 h3 h4)
          simp only [decide_true] at HWo
          generalize idxI (findI heads s) = z at HF HRF
          generalize idxI (freeI heads) = y at HE HRE
          generalize usedI heads = us at HU ⊢
          have z1 : (z == z) = true := beq_self_eq_true z
          have y1 : (y == y) = true := beq_self_eq_true y
          go_wp2_with (first
            | (go_at_call 6; refine (HF.out _ HB.out).mono ?_; rintro e w1 ⟨rfl, ⟨n1, rfl⟩⟩)
            | (go_at_call 7; refine (HRF.out _ (pw_below_drewN HB.out _)).mono ?_; rintro e w2 ⟨rfl, ⟨n2, rfl⟩⟩)
            | (go_at_call 8; refine (HE.out _ (pw_below_drewN HB.out _)).mono ?_; rintro e w3 ⟨rfl, ⟨n3, rfl⟩⟩)
            | (go_at_call 9; refine (HRE.out _ (pw_below_drewN HB.out _)).mono ?_; rintro e w4 ⟨rfl, ⟨n4, rfl⟩⟩)
            | (go_at_call 10; refine (HU.out _ (pw_below_drewN HB.out _)).mono ?_; rintro e w5 ⟨rfl, ⟨n5, rfl⟩⟩)
            | (go_at_call 12; refine (HN.out _ (pw_below_drewN HB.out _)).mono ?_; rintro e w6 ⟨v6, n, rfl, hR6, hN6, hb6⟩; obtain ⟨A6, c6, rfl, hc6, hC6⟩ := Kd.R_reads hR6; have HC6 := Aside0.mk hC6; have HCc6 := Aside0.mk hc6; have HN6 := Aside0.mk hN6; have HB6 := Aside0.mk (below_step (pw_below_drewN HB.out _) hb6); clear hR6 hN6 hb6 hc6 hC6)
            | (go_at_call 13; refine (HRN.out _ HB6.out).mono ?_; rintro e w7 ⟨v7, n', rfl, hR7, hN7, hb7⟩; have e7 : n' = n := Tc.strict_unique order_tc n' n hN7.1 HN6.out.strict (fun x => by rw [hN7.2, HN6.out.mem]); rw [e7] at hR7; clear hN7 e7; obtain ⟨A7, c7, rfl, hc7, hC7⟩ := Kd.R_reads hR7; have HC7 := Aside0.mk hC7; have HCc7 := Aside0.mk hc7; have HB7 := Aside0.mk (below_step HB6.out hb7); have HC67 := Aside0.mk (Kd.C_below HC6.out hb7); clear hR7 hb7 hc7 hC7)
            | (go_at_call 11; refine (HWo.out w7 A6 c6 A7 c7 n (Nat.le_trans HN6.out.len (Nat.le_trans (List.length_filter_le _ _) HL1.out)) HC67.out HCc6.out HC7.out HCc7.out).mono ?_; rintro e w8 ⟨rfl, ⟨n8, rfl⟩⟩; have HB8 := Aside0.mk (pw_below_drewN HB7.out n8))
            | (go_at_call 5; refine (HAlive.out _ HB8.out).mono ?_; rintro e w9 ⟨rfl, hb9⟩; have HB9 := Aside0.mk (below_step HB8.out hb9); clear hb9))
          go_ret
          exact ⟨rfl, HB9.out⟩
end Go.Proofs.YtmonfmmcgfmeeaaGreatDoor.Lf
