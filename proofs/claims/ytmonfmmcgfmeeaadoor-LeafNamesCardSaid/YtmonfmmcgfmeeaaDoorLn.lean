/- LeafNames: the walk. -/
import Derived.Test.YtmonfmmcgfmeeaaDoorNa
import Derived.Test.YtmonfmmcgfmeeaaDoorLf2
import Derived.Test.YtmonfmmcgfmeeaaDoorAl
namespace Go.Proofs.YtmonfmmcgfmeeaaDoor.Lf
open Go.RowKit Go.Shelf Go.Proofs.YtmonfmmcgfmeeaaDoor.Pl Go.Proofs.YtmonfmmcgfmeeaaDoorW.PrintWords Go.ChangeMaps
set_option linter.unusedVariables false
set_option linter.unusedSimpArgs false

theorem row_start (W : World) (base : Nat) (hb : base ≤ W.heap.size) : Kd.string.R 9 (W.alloc (.cells #[] 9)) base (fun _ => True) (.slice (some ⟨W.heap.size, 0, none⟩) 0 0) [] :=
  Kd.R_of_own (World.ownsRow_lit (base := base) (e := 9) (size := 1) W #[] 0 hb (by simp [maxLen]) (by simp)) (fun _ _ => trivial)
theorem nodup_once {n : List ByteArray} (h : n.Nodup) : Once n := by
  refine once_of (fun i hi hs => ?_)
  cases hf : findI n n[i] with
  | none => exact absurd hf (findI_isSome hs (List.getElem?_eq_getElem hi))
  | some j =>
    obtain ⟨_, hj⟩ := findI_some hf
    obtain ⟨hj1, hj2⟩ := List.getElem?_eq_some_iff.1 hj
    congr 1
    rw [List.nodup_iff_pairwise_ne] at h
    rcases Nat.lt_trichotomy i j with h1 | h1 | h1
    · exact absurd hj2.symm (List.pairwise_iff_getElem.1 h i j hi hj1 h1)
    · exact h1.symm
    · exact absurd hj2 (List.pairwise_iff_getElem.1 h j i hj1 hi h1)
theorem find_mem {n : List ByteArray} {x : ByteArray} (h : x ∈ n) (h0 : x.size ≠ 0) : ∃ j : Nat, findI n x = some j := by
  obtain ⟨k, hk⟩ := List.getElem?_of_mem h
  cases hf : findI n x with
  | none => exact absurd hf (findI_isSome h0 hk)
  | some j => exact ⟨j, rfl⟩

set_option maxHeartbeats 4000000 in
set_option maxRecDepth 100000 in
theorem leafnames_any (A0 : Option Addr) (c0 : Nat) (heads : List ByteArray) (mx : Int) (w : World)
    (hr0 : Kd.C Kd.string w A0 heads.length heads) (hc0 : heads.length ≤ c0) (hT : Lib.Utf8Tabs 0 1 w) (hmx : w.cell? ⟨2, 0, none⟩ = some (.int .i64 mx)) :
    Calls Tryd.prog 4 #[.slice A0 heads.length c0] w fun e w' => e = .returned (.bool true) ∧ Below w.heap.size w w' := by
  have HLight : Aside0 (Calls Tryd.prog 5 #[.slice A0 heads.length c0, .slice none 0 0] w fun e w' => e = .returned (.bool (lightB heads [])) ∧ Drawn0 w w') := ⟨light_any A0 c0 heads none 0 [] w hr0 hc0 ⟨rfl, by simp, fun h => absurd h (by simp)⟩ (Nat.le_refl _)⟩
  have HAlive := Aside0.mk (fun W (hb : Below w.heap.size w W) => alive_any W (Utf8Tabs_below hT hb))
  have HR0 := Aside0.mk hr0
  have HC0 := Aside0.mk hc0
  have HT := Aside0.mk hT
  have HMX := Aside0.mk hmx
  clear hr0 hT hc0 hmx
  cases hl : lightB heads []
  · rw [hl] at HLight
    clear hl
    go_enter Tryd.func4, Tryd.ntmps4
    go_wp2_with (first
      | (go_at_call 5; refine HLight.out.mono ?_; rintro e w' ⟨rfl, ⟨nd, rfl⟩⟩)
      | (go_at_call 6; refine (HAlive.out _ (pw_below_drewN (Below.refl _ _) _)).mono ?_; rintro e w' ⟨rfl, hb⟩; have HB := Aside0.mk hb; clear hb))
    go_ret
    exact ⟨rfl, below_step (pw_below_drewN (Below.refl _ _) _) HB.out⟩
  · rw [hl] at HLight
    unfold lightB at hl
    simp only [Bool.and_eq_true, decide_eq_true_eq, List.all_eq_true] at hl
    obtain ⟨hl1, hl2, hl3, hl4⟩ := hl
    have HL1 := Aside0.mk hl1
    have HL3 := Aside0.mk hl3
    clear hl2 hl3 hl4
    have HNames := Aside0.mk (fun W (hb : Below w.heap.size w W) => names_any A0 c0 heads mx W (Kd.C_below HR0.out hb) HC0.out (by omega) HL3.out (Utf8Tabs_below HT.out hb) (pw_cell_below hb HMX.out))
    go_enter Tryd.func4, Tryd.ntmps4
    go_wp2_with (first
      | (go_at_call 5; refine HLight.out.mono ?_; rintro e w' ⟨rfl, ⟨nd, rfl⟩⟩; have HB0 := Aside0.mk (pw_below_drewN (Below.refl w.heap.size w) nd); generalize w.drewN nd = w0 at HB0 ⊢)
      | (go_at_call 9; refine (HNames.out _ HB0.out).mono ?_; rintro e w1 ⟨v, n, rfl, hR, hN, hb⟩; obtain ⟨NA, nc, rfl, hnc, hNC⟩ := Kd.R_reads hR; have HNC := Aside0.mk hNC; have HNc := Aside0.mk hnc; have HN := Aside0.mk hN; have HB1 := Aside0.mk (below_step HB0.out hb); clear hb hR hNC hnc hN))
    have hnl : n.length ≤ 70 := Nat.le_trans HN.out.len (Nat.le_trans (List.length_filter_le _ _) hl1)
    have HNL := Aside0.mk hnl
    clear hl1
    go_loopw [4] (fun v4 wr => ∃ i : Nat, i ≤ n.length ∧ v4 = .int .i64 i ∧ Aside0 (Below w1.heap.size w1 wr)) (fun v4 _ => n.length - (intOf v4).toNat)
    case atStart => exact ⟨0, Nat.zero_le _, rfl, ⟨Below.refl _ _⟩⟩
    case round =>
      obtain ⟨i, hi, rfl, HBr⟩ := hrel
      by_cases hlt : i < n.length
      · obtain ⟨ad, eA, x0⟩ := Kd.at_string (Kd.C_below HNC.out HBr.out) (i : Int) (by omega) (by omega)
        have hrd : rdOf ByteArray.empty n (i : Int) = n[i] := by rw [rdOf, Int.toNat_natCast, List.getD_eq_getElem?_getD, List.getElem?_eq_getElem hlt]; rfl
        rw [hrd, Int.toNat_natCast] at x0
        have hmem : n[i] ∈ n := List.getElem_mem hlt
        obtain ⟨hin, hnz⟩ := (HN.out.mem _).1 hmem
        obtain ⟨j, hj⟩ := find_mem hin hnz
        have hfi : findI n n[i] = some i := findI_once (nodup_once HN.out.nodup) hnz (List.getElem?_eq_getElem hlt)
        have HF0 := Aside0.mk (fun W (hb : Below w.heap.size w W) => find_any A0 c0 heads n[i] W (Kd.C_below HR0.out hb) HC0.out)
        have HF1 := Aside0.mk (fun W (hb : Below w1.heap.size w1 W) => find_any NA nc n n[i] W (Kd.C_below HNC.out hb) HNc.out)
        rw [hj] at HF0
        rw [hfi] at HF1
        simp only [idxI] at HF0 HF1
        have hi1 : IntKind.i64.wrap ((i : Int) + 1) = (i : Int) + 1 := IntWalk.i64_in _ (by omega)
        have e1 : (n[i].toList == ([] : List UInt8)) = false := by rw [beq_eq_false_iff_ne]; exact fun e => hnz (toList_nil.1 e)
        have e3 : ((i : Int) != (i : Int)) = false := by simp
        have e4 : decide ((j : Int) < 0) = false := decide_eq_false (by omega)
        subst eA
        clear hrd hmem hin hnz hfi hj
        generalize n[i] = x at x0 HF0 HF1 e1
        go_wp2_with (first
          | (go_at_call_of 7 (Value.slice A0 heads.length c0); refine (HF0.out _ (below_step HB1.out HBr.out)).mono ?_; rintro e w' ⟨rfl, ⟨nd, rfl⟩⟩)
          | (go_at_call_of 7 (Value.slice (some ad) n.length nc); refine (HF1.out _ (pw_below_drewN HBr.out _)).mono ?_; rintro e w' ⟨rfl, ⟨nd2, rfl⟩⟩))
        go_roundw
        case rel => exact ⟨i + 1, by omega, by push_cast; rfl, ⟨pw_below_drewN HBr.out _⟩⟩
        case measure => simp [intOf]; omega
      · obtain rfl : i = n.length := by omega
        clear hlt hi HLight
        go_wp2
        go_loopw [5] (fun v5 wr => ∃ i : Nat, i ≤ heads.length ∧ v5 = .int .i64 i ∧ Aside0 (Below w1.heap.size w1 wr)) (fun v5 _ => heads.length - (intOf v5).toNat)
        case atStart => exact ⟨0, Nat.zero_le _, rfl, HBr⟩
        case round =>
          clear HBr
          obtain ⟨i, hi, rfl, HBr⟩ := hrel
          by_cases hlt : i < heads.length
          · obtain ⟨ad, eA, x0⟩ := Kd.at_string (Kd.C_below HR0.out (below_step HB1.out HBr.out)) (i : Int) (by omega) (by omega)
            have hrd : rdOf ByteArray.empty heads (i : Int) = heads[i] := by rw [rdOf, Int.toNat_natCast, List.getD_eq_getElem?_getD, List.getElem?_eq_getElem hlt]; rfl
            rw [hrd, Int.toNat_natCast] at x0
            have hmem : heads[i] ∈ heads := List.getElem_mem hlt
            have hi1 : IntKind.i64.wrap ((i : Int) + 1) = (i : Int) + 1 := IntWalk.i64_in _ (by have := HL1.out; omega)
            subst eA
            clear hrd
            generalize heads[i] = x at x0 hmem
            by_cases h0 : x.size = 0
            · have e1 : (x.toList == ([] : List UInt8)) = true := by rw [beq_iff_eq]; exact toList_nil.2 h0
              have e2 : (x.toList != ([] : List UInt8)) = false := by rw [bne_eq_false_iff_eq]; exact toList_nil.2 h0
              clear h0 hmem
              go_wp2
              go_roundw
              case rel => exact ⟨i + 1, by omega, by push_cast; rfl, HBr⟩
              case measure => simp [intOf]; omega
            · have e1 : (x.toList == ([] : List UInt8)) = false := by rw [beq_eq_false_iff_ne]; exact fun e => h0 (toList_nil.1 e)
              have e2 : (x.toList != ([] : List UInt8)) = true := by rw [bne_iff_ne]; exact fun e => h0 (toList_nil.1 e)
              obtain ⟨j, hj⟩ := find_mem ((HN.out.mem x).2 ⟨hmem, h0⟩) h0
              have HF1 := Aside0.mk (find_any NA nc n x wr (Kd.C_below HNC.out HBr.out) HNc.out)
              rw [hj] at HF1
              simp only [idxI] at HF1
              have e4 : decide ((j : Int) < 0) = false := decide_eq_false (by omega)
              clear h0 hmem hj
              go_wp2_with (first
                | (go_at_call 7; refine HF1.out.mono ?_; rintro e w' ⟨rfl, ⟨nd, rfl⟩⟩))
              go_roundw
              case rel => exact ⟨i + 1, by omega, by push_cast; rfl, ⟨pw_below_drewN HBr.out _⟩⟩
              case measure => simp [intOf]; omega
          · obtain rfl : i = heads.length := by omega
            clear hlt hi
            generalize wr = w2 at HBr ⊢
            go_wp2_with (first
              | ((with_reducible refine gate_builtin (b := .append) (xs := #[.tmp 65, .tmp 66]) rfl ?_); at_builtin; go_loud (refine Kd.R_append_row Value.string ByteArray.empty (h1 := fun _ => rfl) (w0 := w2) w2.heap.size rfl _ _ 22 9 (.string ⟨#[]⟩) 16 rfl Tryd.underlying22 info9 rfl (by decide) _ [] n NA n.length nc (fun _ => True) rfl rfl (fun _ _ => trivial) (row_start w2 _ (Nat.le_refl _)) (Kd.C_below (Kd.C_below HNC.out HBr.out) (below_alloc (Below.refl _ _) _)) (below_alloc (Below.refl _ _) _) (by simp) (by simp; omega) ?_); intro v1 w3 hR1 hB1 hx1 hx2; clear hx1 hx2; obtain ⟨SA, sc, rfl⟩ := Kd.R_slice hR1; have HNow := Aside0.mk hR1; have HB2 := Aside0.mk hB1; clear hR1 hB1))
            go_loopw [7] (fun v7 wr => ∃ (i : Nat) (L : List ByteArray), i ≤ n.length / 2 ∧ v7 = .int .i64 i ∧ Aside0 (L.length = n.length) ∧ Aside0 (L.Perm n) ∧ Aside0 (Kd.string.R 9 wr w2.heap.size (fun _ => True) (.slice SA n.length sc) L) ∧ Aside0 (Below w2.heap.size w2 wr)) (fun v7 _ => n.length / 2 - (intOf v7).toNat)
            case atStart => exact ⟨0, n, Nat.zero_le _, rfl, ⟨rfl⟩, ⟨List.Perm.refl _⟩, HNow, HB2⟩
            case round =>
              clear HNow HB2
              obtain ⟨i, L, hi, rfl, HLL, HP, HRw, HBw⟩ := hrel
              by_cases hlt : i < n.length / 2
              · obtain ⟨j, hj⟩ : ∃ j : Nat, n.length = i + j + 1 := ⟨n.length - 1 - i, by omega⟩
                have hLi : i < L.length := by have := HLL.out; omega
                have hLj : j < L.length := by have := HLL.out; omega
                have hij : i < j := by omega
                obtain ⟨g, hg⟩ : ∃ g, SA = some ⟨g, 0, none⟩ := by
                  obtain ⟨inner, ho⟩ := Kd.R_own HRw.out
                  obtain ⟨g, cap, h1, _, _⟩ := ho.form (by omega)
                  injection h1 with h1 _ _
                  exact ⟨g, h1⟩
                subst hg
                have hgb : w2.heap.size ≤ g := by
                  obtain ⟨inner, ho⟩ := Kd.R_own HRw.out
                  exact own_base ho g rfl
                obtain ⟨gc, gf⟩ := Kd.R_celln ByteArray.empty HRw.out (i : Int) (by omega) (by omega)
                obtain ⟨hc, hf⟩ := Kd.R_celln ByteArray.empty HRw.out (j : Int) (by omega) (by omega)
                rw [Int.toNat_natCast] at gc gf hc hf
                have hrd : rdOf ByteArray.empty L (i : Int) = L[i] := by rw [rdOf, Int.toNat_natCast, List.getD_eq_getElem?_getD, List.getElem?_eq_getElem hLi]; rfl
                have hrdj : rdOf ByteArray.empty L (j : Int) = L[j] := by rw [rdOf, Int.toNat_natCast, List.getD_eq_getElem?_getD, List.getElem?_eq_getElem hLj]; rfl
                rw [hrd] at gc
                rw [hrdj] at hc
                have hput := Kd.R_putn HRw.out (i : Int) L[j]
                rw [Int.toNat_natCast] at hput
                have hput2 := Kd.R_putn hput (j : Int) L[i]
                rw [Int.toNat_natCast] at hput2
                have HPut := Aside0.mk hput2
                have HPm := Aside0.mk ((List.set_set_perm hLi hLj).trans HP.out)
                have hw1 : IntKind.i64.wrap ((n.length : Int) - 1) = (n.length : Int) - 1 := IntWalk.i64_in _ (by omega)
                have hw2 : IntKind.i64.wrap ((n.length : Int) - 1 - (i : Int)) = (j : Int) := by rw [show (n.length : Int) - 1 - (i : Int) = (j : Int) by omega]; exact IntWalk.i64_in _ (by omega)
                have hw3 : (n.length : Int) - 1 - (i : Int) = (j : Int) := by omega
                have hi1 : IntKind.i64.wrap ((i : Int) + 1) = (i : Int) + 1 := IntWalk.i64_in _ (by omega)
                have hin : (i : Int) < (n.length : Int) := by omega
                have hjn : (j : Int) < (n.length : Int) := by omega
                have hq : (i : Int) < (n.length : Int) / 2 := by omega
                have n1 : (⟨g, i, none⟩ : Addr) ≠ ⟨g, j, none⟩ := by intro e; injection e with _ e _; omega
                clear hput hput2 hrd hrdj
                generalize L[i] = x at gc HPut HPm
                generalize L[j] = y at hc HPut HPm
                go_wp2
                go_roundw
                case rel => exact ⟨i + 1, (L.set i y).set j x, by omega, by push_cast; rfl, ⟨by simp only [List.length_set]; exact HLL.out⟩, HPm, HPut, ⟨(HBw.out.setCell (p := ⟨g, i, none⟩) hgb _).setCell (p := ⟨g, j, none⟩) hgb _⟩⟩
                case measure => simp [intOf]; omega
              · obtain rfl : i = n.length / 2 := by omega
                have HBz : Aside0 (Below w.heap.size w wr) := ⟨below_step (below_step HB1.out HBr.out) HBw.out⟩
                have HLC := Aside0.mk (show Kd.string.C wr SA L.length L from (Kd.R_reads' HRw.out).2.2)
                have HLc := Aside0.mk (show L.length ≤ sc from by have := (Kd.R_reads' HRw.out).2.1; rwa [← HLL.out] at this)
                have HNm := Aside0.mk (fun W (hb : Below wr.heap.size wr W) => names_any SA sc L mx W (Kd.C_below HLC.out hb) HLc.out (by have := HLL.out; have := HNL.out; omega) (fun x hx => HL3.out x ((HN.out.mem x).1 (HP.out.mem_iff.1 hx)).1) (Utf8Tabs_below HT.out (below_step HBz.out hb)) (pw_cell_below (below_step HBz.out hb) HMX.out))
                rw [HLL.out] at HNm
                have HUs := Aside0.mk (used_any A0 c0 heads wr (by have := HL1.out; omega) (Kd.C_below HR0.out HBz.out) HC0.out)
                have HWo := Aside0.mk (fun W B d (hb : Below w1.heap.size w1 W) (h1 : Kd.C Kd.string W B n.length n) (h2 : n.length ≤ d) => words_any B d n NA nc n W (by have := HNL.out; omega) h1 h2 (Kd.C_below HNC.out hb) HNc.out)
                have hud : n.length ≤ usedI heads := HN.out.len
                obtain ⟨us, hus⟩ : ∃ us, us = usedI heads := ⟨_, rfl⟩
                rw [← hus] at HUs hud
                have hud2 : decide ((n.length : Int) ≤ (us : Int)) = true := decide_eq_true (by omega)
                have hqf : decide (((n.length / 2 : Nat) : Int) < (n.length : Int) / 2) = false := decide_eq_false (by omega)
                clear hus hlt hi
                simp only [decide_true] at HWo
                go_wp2_with (first
                  | (go_at_call 10; refine HUs.out.mono ?_; rintro e w4 ⟨rfl, ⟨nd4, rfl⟩⟩)
                  | (go_at_call 9; refine (HNm.out _ (pw_below_drewN (Below.refl _ _) nd4)).mono ?_; rintro e w5 ⟨v5, n5, rfl, hR5, hN5, hb5⟩; have e5 : n5 = n := NamesOf.unique hN5 HN.out (fun x hx => ⟨fun h => ((HN.out.mem x).1 (HP.out.mem_iff.1 h)).1, fun h => HP.out.mem_iff.2 ((HN.out.mem x).2 ⟨h, hx⟩)⟩); rw [e5] at hR5; clear hN5 e5; obtain ⟨A5, c5, rfl, hc5, hC5⟩ := Kd.R_reads hR5; have HC5 := Aside0.mk hC5; have HCc5 := Aside0.mk hc5; have HB5 := Aside0.mk (below_step (pw_below_drewN (Below.refl wr.heap.size wr) nd4) hb5); clear hR5 hc5 hC5 hb5)
                  | (go_at_call 11; refine (HWo.out w5 A5 c5 (below_step HBr.out (below_step HBw.out HB5.out)) HC5.out HCc5.out).mono ?_; rintro e w6 ⟨rfl, ⟨nd6, rfl⟩⟩)
                  | (go_at_call 6; refine (HAlive.out _ (pw_below_drewN (below_step HBz.out HB5.out) nd6)).mono ?_; rintro e w7 ⟨rfl, hb7⟩; have HB7 := Aside0.mk (below_step (pw_below_drewN (below_step HBz.out HB5.out) nd6) hb7); clear hb7))
                go_ret
                exact ⟨rfl, HB7.out⟩
end Go.Proofs.YtmonfmmcgfmeeaaDoor.Lf
