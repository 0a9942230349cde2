/- The law's example, and the law's walk. -/
import Derived.Test.YtmonfmmcgfmeeaaJ3
import Derived.Deep.RegionHeld3
namespace Go.Proofs.Ytmonfmmcgfmeeaa.PVerdictJudges
open Go.RowKit Go.Proofs.YtmonfmmcgfmeeaaW.PrintWords Go.Proofs.YtmonfmmcgfmeeaaW.PrintLast Go.Proofs.YtmonfmmcgfmeeaaW.PrintMore

def aCommit : S40 := ⟨⟨#[97]⟩, 0, ⟨#[99]⟩⟩

theorem C_nil40 (w : World) : Kd.C k40 w none 0 [] := ⟨rfl, by omega, fun h => by omega⟩

set_option maxHeartbeats 1000000 in
theorem alive_any (w : World) : Calls Try.prog 5 #[] w fun e w' => e = .returned (.bool true) ∧ Below w.heap.size w w' := by
  have hJ : judgeOf [] [aCommit] = [⟨4, ⟨#[97]⟩, ⟨#[99]⟩, 0, 0, 0, 3, []⟩] := by rfl
  have hc : Kd.C k40 (w.alloc (.cells #[.string ⟨#[97]⟩, .int .i64 0, .string ⟨#[99]⟩] 40)) (some ⟨w.heap.size, 0, none⟩) 1 [aCommit] := by
    refine ⟨rfl, by omega, fun _ => ⟨_, rfl, fun j p hj => ?_⟩⟩
    obtain ⟨rfl, rfl⟩ : j = 0 ∧ p = aCommit := by
      have := (List.getElem?_eq_some_iff.1 hj).1
      simp at this
      subst this
      simp at hj
      exact ⟨rfl, hj.symm⟩
    refine ⟨[.string ⟨#[97]⟩, .int .i64 0, .string ⟨#[99]⟩], rfl, k40_mk _ aCommit, fun i u hu => ?_⟩
    have h0 := blk_cell (blk_new w (.cells #[.string ⟨#[97]⟩, .int .i64 0, .string ⟨#[99]⟩] 40)) i
    have ha : Addr.add ⟨w.heap.size, 0, none⟩ (0 * k40.sz + i) = ⟨w.heap.size, i, none⟩ := by
      simp only [Addr.add, Nat.zero_mul, Nat.zero_add]
      split
      · subst_vars; rfl
      · rfl
    rw [ha, h0]
    simpa using hu
  have hcon := judge_any (some ⟨w.heap.size, 0, none⟩) 1 [aCommit] none 0 [] _ hc (C_nil40 _) (by simp)
  rw [hJ] at hcon
  have HC := Aside0.mk hcon
  clear hc hJ hcon
  go_enter Try.func5, Try.ntmps5
  go_wp2_with (go_at_call 6; refine (HC.out).mono ?_; rintro e w' ⟨v, rfl, hR, hb'⟩; obtain ⟨A, c, rfl, hcc, hC⟩ := Kd.R_reads hR; obtain ⟨ad, A7, c7, e1, y0, y1, y2, y3, y4, y5, y6, y7, _, _⟩ := at_T33 hC 0 (by simp) (by simp); cases e1; have HB := Aside0.mk (below_step ((Below.refl _ _).alloc (Nat.le_refl _) _) hb'); clear hR hC hb' y1 y2 y3 y4 y5 y7; simp [rd_T33, Addr.add] at y0 y6)
  go_ret
  exact ⟨rfl, HB.out⟩

theorem S_reads33 {w : World} {base : Nat} {ok : Nat → Prop} {v : Value} {xs : List S33} (h : Kd.S k33 33 w base ok v xs) : ∃ A c, v = .slice A xs.length c ∧ xs.length ≤ c ∧ Kd.C k33 w A xs.length xs := Kd.S_reads h

/-- Judge's lists are without secrets. -/
theorem judge_bare (log due : List S40) (i : Int) (h0 : 0 ≤ i) (h1 : i < (judgeOf log due).length) : (rd_T33 (judgeOf log due) i).f7 = [] := by
  have hl : i.toNat < due.length := by simp [judgeOf] at h1; omega
  simp [rd_T33, judgeOf, List.getD_eq_getElem?_getD, hl, opOf]


theorem light_any (b : Bool) (k : Nat) (A : Option Addr) (c : Nat) (xs : List S39) (w W : World) (HR : Aside0 (Kd.C k39 w A xs.length xs)) (HC : Aside0 (xs.length ≤ c)) (HL : Aside0 (oubliettelaw40_Light.f k xs = some b)) (HB : Aside0 (Below w.heap.size w W)) :
    Calls Try.prog 4 #[.slice A xs.length c] W fun e w' => e = .returned (.bool b) ∧ Aside0 (Below w.heap.size w w') :=
  (oubliettelaw40_Light.calls k A c xs b W (Kd.C_below HR.out HB.out) HC.out HL.out).mono fun _ _ ⟨h1, h2⟩ => ⟨h1, ⟨below_step HB.out h2.below⟩⟩

theorem aliv_any (w W : World) (HB : Aside0 (Below w.heap.size w W)) : Calls Try.prog 5 #[] W fun e w' => e = .returned (.bool true) ∧ Aside0 (Below w.heap.size w w') :=
  (alive_any W).mono fun _ _ ⟨h1, h2⟩ => ⟨h1, ⟨below_step HB.out h2⟩⟩

theorem of_any (A : Option Addr) (c : Nat) (xs : List S39) (X : List S40) (w W : World) (HR : Aside0 (Kd.C k39 w A xs.length xs)) (HC : Aside0 (xs.length ≤ c)) (HN : Aside0 (xs.length ≤ 30)) (HX : Aside0 (X = xs.map conv)) (HB : Aside0 (Below w.heap.size w W)) :
    Calls Try.prog 7 #[.slice A xs.length c] W fun e w' => ∃ A' c', e = .returned (.slice A' X.length c') ∧ Aside0 (Kd.C k40 w' A' X.length X) ∧ Aside0 (Below W.heap.size W w') ∧ Aside0 (Below w.heap.size w w') := by
  refine (oubliettelaw40_Of.calls (xs.length + 1) A c xs X W (Kd.C_below HR.out HB.out) HC.out (by rw [HX.out]; exact of_f xs (by have := HN.out; omega))).mono ?_
  rintro e w' ⟨v, rfl, hR, hb⟩
  obtain ⟨A', c', rfl, _, hC⟩ := Kd.R_reads hR
  exact ⟨A', c', rfl, ⟨hC⟩, ⟨hb⟩, ⟨below_step HB.out hb⟩⟩

theorem judg_any (A : Option Addr) (c : Nat) (X : List S40) (A1 : Option Addr) (c1 : Nat) (Y : List S40) (J : List S33) (w W : World) (HR : Aside0 (Kd.C k40 W A X.length X)) (HR1 : Aside0 (Kd.C k40 W A1 Y.length Y)) (HN : Aside0 (X.length ≤ 30)) (HJ : Aside0 (J = judgeOf Y X)) (HB : Aside0 (Below w.heap.size w W)) :
    Calls Try.prog 6 #[.slice A X.length c, .slice A1 Y.length c1] W fun e w' => ∃ A' c', e = .returned (.slice A' J.length c') ∧ Aside0 (Kd.C k33 w' A' J.length J) ∧ Aside0 (Below W.heap.size W w') ∧ Aside0 (Below w.heap.size w w') := by
  refine (judge_any A c X A1 c1 Y W HR.out HR1.out (by have := HN.out; omega)).mono ?_
  rintro e w' ⟨v, rfl, hR, hb⟩
  rw [← HJ.out] at hR
  obtain ⟨A', c', rfl, _, hC⟩ := Kd.R_reads hR
  exact ⟨A', c', rfl, ⟨hC⟩, ⟨hb⟩, ⟨below_step HB.out hb⟩⟩

theorem rjudg_any (A : Option Addr) (c : Nat) (xs : List S39) (A1 : Option Addr) (c1 : Nat) (ys : List S39) (J : List S33) (w W : World) (HR : Aside0 (Kd.C k39 w A xs.length xs)) (HC : Aside0 (xs.length ≤ c)) (HR1 : Aside0 (Kd.C k39 w A1 ys.length ys)) (HC1 : Aside0 (ys.length ≤ c1)) (HN : Aside0 (xs.length ≤ 30)) (HN1 : Aside0 (ys.length ≤ 30)) (HJ : Aside0 (J = judgeOf (ys.map conv) (xs.map conv))) (HB : Aside0 (Below w.heap.size w W)) :
    Calls Try.prog 8 #[.slice A xs.length c, .slice A1 ys.length c1] W fun e w' => ∃ A' c', e = .returned (.slice A' J.length c') ∧ Aside0 (Kd.C k33 w' A' J.length J) ∧ Aside0 (Below W.heap.size W w') ∧ Aside0 (Below w.heap.size w w') := by
  obtain ⟨k, hk⟩ := rjudge_f xs ys (by have := HN.out; omega) (by have := HN1.out; omega)
  refine (oublietteref40_Judge.calls k A c xs A1 c1 ys _ W (Kd.C_below HR.out HB.out) HC.out (Kd.C_below HR1.out HB.out) HC1.out hk).mono ?_
  rintro e w' ⟨v, rfl, hR, hb⟩
  rw [← HJ.out] at hR
  obtain ⟨A', c', rfl, _, hC⟩ := Kd.S_reads hR
  exact ⟨A', c', rfl, ⟨hC⟩, ⟨hb⟩, ⟨below_step HB.out hb⟩⟩

theorem same_any (o : S33) (W : World) (HF : Aside0 (o.f7 = [])) {Aa Ab : Option Addr} {ca cb : Nat} :
    Calls Try.prog 9 #[.agg #[.int .i64 o.f0, .string o.f1, .string o.f2, .int .i64 o.f3, .int .i64 o.f4, .int .i64 o.f5, .int .i64 o.f6, .slice Aa 0 ca], .agg #[.int .i64 o.f0, .string o.f1, .string o.f2, .int .i64 o.f3, .int .i64 o.f4, .int .i64 o.f5, .int .i64 o.f6, .slice Ab 0 cb]] W fun e w' => e = .returned (.bool true) ∧ Aside0 (Below W.heap.size W w') := by
  have h := same_f o HF.out
  rw [HF.out] at h
  refine (oublietteref39_Same.calls 1 o.f0 o.f1 o.f2 o.f3 o.f4 o.f5 o.f6 Aa ca [] o.f0 o.f1 o.f2 o.f3 o.f4 o.f5 o.f6 Ab cb [] true W ⟨rfl, by simp, fun h => by simp at h⟩ (Nat.zero_le _) ⟨rfl, by simp, fun h => by simp at h⟩ (Nat.zero_le _) h).mono ?_
  rintro e w' ⟨rfl, hb⟩
  exact ⟨rfl, ⟨hb⟩⟩

theorem vsay_any (g : ByteArray) (e : Int) (A : Option Addr) (c : Nat) (X : List S40) (s : ByteArray) (b : Bool) (w W : World) (HR : Aside0 (Kd.C k40 W A X.length X)) (HS : Aside0 ((s, b) = sayOf g e X)) (HB : Aside0 (Below w.heap.size w W)) :
    Calls Try.prog 10 #[.slice A X.length c, .string g, .int .i64 e] W fun r w' => r = .returned (.tuple #[.string s, .bool b]) ∧ Aside0 (Below w.heap.size w w') := by
  refine (say_any g e A c X W HR.out).mono ?_
  rintro r w' ⟨rfl, hb⟩
  rw [← HS.out]
  exact ⟨rfl, ⟨below_step HB.out hb⟩⟩

theorem rsay_any (g : ByteArray) (e : Int) (A : Option Addr) (c : Nat) (ys : List S39) (s : ByteArray) (b : Bool) (w W : World) (HR : Aside0 (Kd.C k39 w A ys.length ys)) (HC : Aside0 (ys.length ≤ c)) (HN : Aside0 (ys.length ≤ 30)) (HS : Aside0 ((s, b) = sayOf g e (ys.map conv))) (HB : Aside0 (Below w.heap.size w W)) :
    Calls Try.prog 11 #[.slice A ys.length c, .string g, .int .i64 e] W fun r w' => r = .returned (.tuple #[.string s, .bool b]) ∧ Aside0 (Below w.heap.size w w') := by
  refine (oublietteref40_Say.calls (ys.length + 1) A c ys g e s b W (Kd.C_below HR.out HB.out) HC.out (by rw [rsay_f ys g e (by have := HN.out; omega) _ (by omega), HS.out])).mono ?_
  rintro r w' ⟨rfl, hb⟩
  exact ⟨rfl, ⟨below_step HB.out hb.below⟩⟩

set_option maxHeartbeats 4000000 in
theorem law_any (A : Option Addr) (c : Nat) (xs : List S39) (A1 : Option Addr) (c1 : Nat) (ys : List S39) (g : ByteArray) (e : Int) (w : World) (hr : Kd.C k39 w A xs.length xs) (hc : xs.length ≤ c) (hr1 : Kd.C k39 w A1 ys.length ys) (hc1 : ys.length ≤ c1) :
    Calls Try.prog 3 #[.slice A xs.length c, .slice A1 ys.length c1, .string g, .int .i64 e] w fun r w' => r = .returned (.bool true) ∧ Below w.heap.size w w' := by
  obtain ⟨k1, b1, hb1, l1⟩ := light_f xs
  obtain ⟨k2, b2, hb2, l2⟩ := light_f ys
  have HL1 := Aside0.mk hb1
  have HL2 := Aside0.mk hb2
  have HR := Aside0.mk hr
  have HC := Aside0.mk hc
  have HR1 := Aside0.mk hr1
  have HC1 := Aside0.mk hc1
  have HB := Aside0.mk (Below.refl w.heap.size w)
  clear hr hc hr1 hc1 hb1 hb2
  have HM1 := Aside0.mk l1
  have HM2 := Aside0.mk l2
  clear l1 l2
  cases b1
  · go_enter Try.func3, Try.ntmps3
    go_wp2_with (first | (go_at_call 4; refine (light_any _ k1 A c xs w _ HR HC HL1 HB).mono ?_; clear HB; rintro e w' ⟨rfl, HB⟩) | (go_at_call 5; refine (aliv_any w _ HB).mono ?_; clear HB; rintro e w' ⟨rfl, HB⟩))
    go_ret
    exact ⟨rfl, HB.out⟩
  · cases b2
    · go_enter Try.func3, Try.ntmps3
      go_wp2_with (first | (go_at_call 4; with_reducible refine (light_any _ k1 A c xs w _ HR HC HL1 HB).mono ?_; clear HB; rintro e w' ⟨rfl, HB⟩) | (go_at_call 4; with_reducible refine (light_any _ k2 A1 c1 ys w _ HR1 HC1 HL2 HB).mono ?_; clear HB; rintro e w' ⟨rfl, HB⟩) | (go_at_call 5; refine (aliv_any w _ HB).mono ?_; clear HB; rintro e w' ⟨rfl, HB⟩))
      go_ret
      exact ⟨rfl, HB.out⟩
    · by_cases hg : 100 < g.size
      · go_enter Try.func3, Try.ntmps3
        go_wp2_with (first | (go_at_call 4; with_reducible refine (light_any _ k1 A c xs w _ HR HC HL1 HB).mono ?_; clear HB; rintro e w' ⟨rfl, HB⟩) | (go_at_call 4; with_reducible refine (light_any _ k2 A1 c1 ys w _ HR1 HC1 HL2 HB).mono ?_; clear HB; rintro e w' ⟨rfl, HB⟩) | (go_at_call 5; refine (aliv_any w _ HB).mono ?_; clear HB; rintro e w' ⟨rfl, HB⟩))
        go_ret
        exact ⟨rfl, HB.out⟩
      · have HN1 := Aside0.mk (HM1.out rfl)
        have HN2 := Aside0.mk (HM2.out rfl)
        obtain ⟨X, hX⟩ : ∃ X, X = xs.map conv := ⟨_, rfl⟩
        obtain ⟨Y, hY⟩ : ∃ Y, Y = ys.map conv := ⟨_, rfl⟩
        obtain ⟨J, hJ⟩ : ∃ J, J = judgeOf Y X := ⟨_, rfl⟩
        obtain ⟨⟨s, b⟩, hs⟩ : ∃ s, s = sayOf g e Y := ⟨_, rfl⟩
        have HN3 := Aside0.mk (show X.length ≤ 30 by rw [hX, List.length_map]; exact HN1.out)
        have HS1 := Aside0.mk hs
        have HS2 := Aside0.mk hs
        rw [hY] at HS2
        have HJ := Aside0.mk hJ
        have HJ2 := Aside0.mk hJ
        rw [hX, hY] at HJ2
        have HX := Aside0.mk hX
        have HY := Aside0.mk hY
        have HJn := Aside0.mk (show J.length ≤ 30 by rw [hJ, judgeOf, List.length_map]; exact HN3.out)
        clear hX hY hJ hs HM1 HM2
        go_enter Try.func3, Try.ntmps3
        go_wp2_with (first | (go_at_call 4; with_reducible refine (light_any _ k1 A c xs w _ HR HC HL1 HB).mono ?_; clear HB; rintro e w' ⟨rfl, HB⟩) | (go_at_call 4; with_reducible refine (light_any _ k2 A1 c1 ys w _ HR1 HC1 HL2 HB).mono ?_; clear HB; rintro e w' ⟨rfl, HB⟩) | (go_at_call 5; refine (aliv_any w _ HB).mono ?_; clear HB; rintro e w' ⟨rfl, HB⟩) | (go_at_call 7; with_reducible refine (of_any A c xs X w _ HR HC HN1 HX HB).mono ?_; clear HB; rintro e w' ⟨Ax, cx, rfl, HRX, _, HB⟩) | (go_at_call 7; with_reducible refine (of_any A1 c1 ys Y w _ HR1 HC1 HN2 HY HB).mono ?_; clear HB; rintro e w' ⟨Ay, cy, rfl, HRY, HBs, HB⟩; replace HRX := Aside0.mk (Kd.C_below HRX.out HBs.out); clear HBs) | (go_at_call 6; with_reducible refine (judg_any _ _ X _ _ Y J w _ HRX HRY HN3 HJ HB).mono ?_; clear HB; rintro e w' ⟨Aj, cj, rfl, HRJ, _, HB⟩) | (go_at_call 8; with_reducible refine (rjudg_any A c xs A1 c1 ys J w _ HR HC HR1 HC1 HN1 HN2 HJ2 HB).mono ?_; clear HB; rintro e w' ⟨Ak, ck, rfl, HRK, HBs, HB⟩; replace HRJ := Aside0.mk (Kd.C_below HRJ.out HBs.out); clear HBs))
        obtain ⟨wj, rfl⟩ : ∃ wj : World, wj = w' := ⟨_, rfl⟩
        go_loopw [11] (fun v11 wr => ∃ i : Nat, i ≤ J.length ∧ v11 = .int .i64 i ∧ Aside0 (Below w.heap.size w wr) ∧ Aside0 (Below wj.heap.size wj wr)) (fun v11 _ => J.length - (intOf v11).toNat)
        case atStart => exact ⟨0, Nat.zero_le _, rfl, HB, ⟨Below.refl _ _⟩⟩
        case round =>
          obtain ⟨i, hi, rfl, HB, HBj⟩ := hrel
          by_cases hlt : i < J.length
          · have HRa := Kd.C_below HRJ.out HBj.out
            have HRb := Kd.C_below HRK.out HBj.out
            obtain ⟨ada, Aa7, ca7, ea, xa0, xa1, xa2, xa3, xa4, xa5, xa6, xa7, la7, ga7⟩ := at_T33 HRa i (by omega) (by omega)
            obtain ⟨adb, Ab7, cb7, eb, xb0, xb1, xb2, xb3, xb4, xb5, xb6, xb7, lb7, gb7⟩ := at_T33 HRb i (by omega) (by omega)
            cases ea
            cases eb
            rw [Int.toNat_natCast] at xa0 xa1 xa2 xa3 xa4 xa5 xa6 xa7 xb0 xb1 xb2 xb3 xb4 xb5 xb6 xb7
            have hbare : (rd_T33 J i).f7 = [] := by have := judge_bare Y X i (by omega) (by rw [← HJ.out]; omega); rw [← HJ.out] at this; exact this
            rw [hbare] at xa7 xb7
            have HBARE := Aside0.mk hbare
            clear hbare la7 ga7 lb7 gb7 HRa HRb
            have hj30 := HJn.out
            have hi0 : (0 : Int) ≤ (i : Int) := by omega
            have hi1 : (i : Int) < (J.length : Int) := by omega
            generalize ho : rd_T33 J i = o at xa0 xa1 xa2 xa3 xa4 xa5 xa6 xb0 xb1 xb2 xb3 xb4 xb5 xb6 HBARE
            clear ho
            go_wp2
            go_region_held3 (fun W' => W'.cell? (ada.add (i * 8)) = some (.int .i64 o.f0) ∧ W'.cell? ⟨(ada.add (i * 8)).block, (ada.add (i * 8)).off + 1, none⟩ = some (.string o.f1) ∧ W'.cell? ⟨(ada.add (i * 8)).block, (ada.add (i * 8)).off + 2, none⟩ = some (.string o.f2) ∧ W'.cell? ⟨(ada.add (i * 8)).block, (ada.add (i * 8)).off + 3, none⟩ = some (.int .i64 o.f3) ∧ W'.cell? ⟨(ada.add (i * 8)).block, (ada.add (i * 8)).off + 4, none⟩ = some (.int .i64 o.f4) ∧ W'.cell? ⟨(ada.add (i * 8)).block, (ada.add (i * 8)).off + 5, none⟩ = some (.int .i64 o.f5) ∧ W'.cell? ⟨(ada.add (i * 8)).block, (ada.add (i * 8)).off + 6, none⟩ = some (.int .i64 o.f6) ∧ W'.cell? ⟨(ada.add (i * 8)).block, (ada.add (i * 8)).off + 7, none⟩ = some (.slice Aa7 0 ca7) ∧ W'.cell? (adb.add (i * 8)) = some (.int .i64 o.f0) ∧ W'.cell? ⟨(adb.add (i * 8)).block, (adb.add (i * 8)).off + 1, none⟩ = some (.string o.f1) ∧ W'.cell? ⟨(adb.add (i * 8)).block, (adb.add (i * 8)).off + 2, none⟩ = some (.string o.f2) ∧ W'.cell? ⟨(adb.add (i * 8)).block, (adb.add (i * 8)).off + 3, none⟩ = some (.int .i64 o.f3) ∧ W'.cell? ⟨(adb.add (i * 8)).block, (adb.add (i * 8)).off + 4, none⟩ = some (.int .i64 o.f4) ∧ W'.cell? ⟨(adb.add (i * 8)).block, (adb.add (i * 8)).off + 5, none⟩ = some (.int .i64 o.f5) ∧ W'.cell? ⟨(adb.add (i * 8)).block, (adb.add (i * 8)).off + 6, none⟩ = some (.int .i64 o.f6) ∧ W'.cell? ⟨(adb.add (i * 8)).block, (adb.add (i * 8)).off + 7, none⟩ = some (.slice Ab7 0 cb7)) (first | exact ⟨xa0, xa1, xa2, xa3, xa4, xa5, xa6, xa7, xb0, xb1, xb2, xb3, xb4, xb5, xb6, xb7⟩ | exact ⟨(HBd.out.cell (World.block_lt_of_cell? wr _ xa0)).trans xa0, (HBd.out.cell (World.block_lt_of_cell? wr _ xa1)).trans xa1, (HBd.out.cell (World.block_lt_of_cell? wr _ xa2)).trans xa2, (HBd.out.cell (World.block_lt_of_cell? wr _ xa3)).trans xa3, (HBd.out.cell (World.block_lt_of_cell? wr _ xa4)).trans xa4, (HBd.out.cell (World.block_lt_of_cell? wr _ xa5)).trans xa5, (HBd.out.cell (World.block_lt_of_cell? wr _ xa6)).trans xa6, (HBd.out.cell (World.block_lt_of_cell? wr _ xa7)).trans xa7, (HBd.out.cell (World.block_lt_of_cell? wr _ xb0)).trans xb0, (HBd.out.cell (World.block_lt_of_cell? wr _ xb1)).trans xb1, (HBd.out.cell (World.block_lt_of_cell? wr _ xb2)).trans xb2, (HBd.out.cell (World.block_lt_of_cell? wr _ xb3)).trans xb3, (HBd.out.cell (World.block_lt_of_cell? wr _ xb4)).trans xb4, (HBd.out.cell (World.block_lt_of_cell? wr _ xb5)).trans xb5, (HBd.out.cell (World.block_lt_of_cell? wr _ xb6)).trans xb6, (HBd.out.cell (World.block_lt_of_cell? wr _ xb7)).trans xb7⟩) (first | (go_at_call 9; refine (same_any o _ HBARE).mono ?_; rintro e w' ⟨rfl, HB1⟩; have HBd := Aside0.mk (below_step (Below.refl wr.heap.size wr).drew HB1.out); replace HB := Aside0.mk (below_step HB.out.drew HB1.out); replace HBj := Aside0.mk (below_step HBj.out.drew HB1.out); clear HB1))
            go_wp2
            go_roundw
            case rel => exact ⟨i + 1, by omega, by go_num, HB, HBj⟩
            case measure => simp [intOf]; omega
          · obtain rfl : i = J.length := by omega
            go_wp2_with (first | (go_at_call 5; refine (aliv_any w _ HB).mono ?_; clear HB; rintro e w' ⟨rfl, HB⟩) | (go_at_call 7; with_reducible refine (of_any A1 c1 ys Y w _ HR1 HC1 HN2 HY HB).mono ?_; clear HB; rintro e w' ⟨Ay, cy, rfl, HRY, HBs, HB⟩; clear HBs) | (go_at_call 10; with_reducible refine (vsay_any g e _ _ Y s b w _ HRY HS1 HB).mono ?_; clear HB; rintro e w' ⟨rfl, HB⟩) | (go_at_call 11; with_reducible refine (rsay_any g e A1 c1 ys s b w _ HR1 HC1 HN2 HS2 HB).mono ?_; clear HB; rintro e w' ⟨rfl, HB⟩))
            go_ret
            exact ⟨rfl, HB.out⟩
end Go.Proofs.Ytmonfmmcgfmeeaa.PVerdictJudges
