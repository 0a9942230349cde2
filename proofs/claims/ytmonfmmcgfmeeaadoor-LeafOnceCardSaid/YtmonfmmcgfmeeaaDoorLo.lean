/- LeafOnce: the walk. -/
import Derived.Test.YtmonfmmcgfmeeaaDoorAl
namespace Go.Proofs.YtmonfmmcgfmeeaaDoor.Lf
open Go.RowKit Go.Shelf Go.Proofs.YtmonfmmcgfmeeaaDoor.Pl Go.Proofs.YtmonfmmcgfmeeaaDoorW.PrintWords Go.Proofs.YtmonfmmcgfmeeaaDoor.Mp Go.ChangeMaps
set_option linter.unusedVariables false
set_option linter.unusedSimpArgs false

def setAll (hs : List ByteArray) (o : List S33) : List ByteArray := o.foldl (fun n p => n.set p.f0.toNat p.f1) hs
theorem setAll_length : ∀ (o : List S33) (hs : List ByteArray), (setAll hs o).length = hs.length
  | [], _ => rfl
  | p :: r, hs => by
    show (setAll (hs.set p.f0.toNat p.f1) r).length = _
    rw [setAll_length r, List.length_set]
theorem setAll_snoc (hs : List ByteArray) (o : List S33) (p : S33) : setAll hs (o ++ [p]) = (setAll hs o).set p.f0.toNat p.f1 := by
  simp [setAll, List.foldl_append]
theorem setAll_out : ∀ (o : List S33) (hs : List ByteArray) (k : Nat), (∀ p ∈ o, p.f0.toNat ≠ k) → (setAll hs o)[k]? = hs[k]?
  | [], _, _, _ => rfl
  | p :: r, hs, k, h => by
    show (setAll (hs.set p.f0.toNat p.f1) r)[k]? = _
    rw [setAll_out r _ k (fun q hq => h q (List.mem_cons_of_mem _ hq)), List.getElem?_set, if_neg (h p (by simp))]
theorem setAll_in : ∀ (o : List S33) (hs : List ByteArray) (p : S33), (o.map (fun q => q.f0.toNat)).Nodup → p ∈ o → p.f0.toNat < hs.length → (setAll hs o)[p.f0.toNat]? = some p.f1
  | [], _, _, _, h, _ => by simp at h
  | q :: r, hs, p, hn, hp, hl => by
    show (setAll (hs.set q.f0.toNat q.f1) r)[p.f0.toNat]? = _
    simp only [List.map_cons, List.nodup_cons] at hn
    rcases List.mem_cons.1 hp with rfl | hp
    · rw [setAll_out r _ _ (fun u hu e => hn.1 (List.mem_map.2 ⟨u, hu, e⟩)), List.getElem?_set, if_pos rfl, if_pos hl]
    · exact setAll_in r _ p hn.2 hp (by rw [List.length_set]; exact hl)

theorem slots_sorted {last : List (Nat × Chg)} (hn : (last.map (·.1)).Nodup) : (slotsOf last).Pairwise (fun a b => a < b) := by
  have h1 : (slotsOf last).Pairwise (fun a b => decide (a ≤ b) = true) := List.pairwise_mergeSort (fun a b c h1 h2 => by simp only [decide_eq_true_eq] at *; omega) (fun a b => by simp only [Bool.or_eq_true, decide_eq_true_eq]; omega) _
  have h2 : (slotsOf last).Nodup := by
    have : (keysZ last).Nodup := by
      unfold keysZ
      have e : last.map (fun p => (p.1 : Int)) = (last.map (·.1)).map (fun k : Nat => (k : Int)) := by rw [List.map_map]; rfl
      rw [e, List.nodup_iff_pairwise_ne, List.pairwise_map]
      rw [List.nodup_iff_pairwise_ne] at hn
      exact hn.imp (fun h e => h (by omega))
    exact (List.mergeSort_perm _ _).nodup_iff.2 this
  rw [List.nodup_iff_pairwise_ne] at h2
  refine (h1.and h2).imp (fun {a b} h => ?_)
  obtain ⟨h3, h4⟩ := h
  simp only [decide_eq_true_eq] at h3
  omega
theorem outAt_mem {last : List (Nat × Chg)} (hn : (last.map (·.1)).Nodup) {k : Nat} {c : Chg} (h : (k, c) ∈ last) : outAt last (k : Int) = ⟨(k : Int), headOf c, valOf c, c.gone⟩ := by
  obtain ⟨q, hq⟩ := List.getElem?_of_mem h
  rw [outAt, Int.toNat_natCast, getK_at hn hq]
theorem out_f0 {last : List (Nat × Chg)} (hn : (last.map (·.1)).Nodup) : (outOf last).map (·.f0) = slotsOf last := by
  unfold outOf
  rw [List.map_map]
  conv => rhs; rw [← List.map_id (slotsOf last)]
  apply List.map_congr_left
  intro z hz
  obtain ⟨k, c, hkc, rfl⟩ := slots_mem hz
  show (outAt last (k : Int)).f0 = _
  rw [outAt_mem hn hkc]; rfl
theorem out_at {last : List (Nat × Chg)} (hn : (last.map (·.1)).Nodup) {p : S33} (h : p ∈ outOf last) : ∃ k c, (k, c) ∈ last ∧ p = ⟨(k : Int), headOf c, valOf c, c.gone⟩ := by
  obtain ⟨z, hz, rfl⟩ := List.mem_map.1 h
  obtain ⟨k, c, hkc, rfl⟩ := slots_mem hz
  exact ⟨k, c, hkc, outAt_mem hn hkc⟩
theorem out_mem {last : List (Nat × Chg)} (hn : (last.map (·.1)).Nodup) {k : Nat} {c : Chg} (h : (k, c) ∈ last) : (⟨(k : Int), headOf c, valOf c, c.gone⟩ : S33) ∈ outOf last := by
  rw [← outAt_mem hn h]
  refine List.mem_map.2 ⟨_, ?_, rfl⟩
  unfold slotsOf
  rw [List.mem_mergeSort]
  exact List.mem_map.2 ⟨_, h, rfl⟩
/-- What the changes of a plan make of the heads is what the plan has by then. -/
theorem setAll_now {heads : List ByteArray} {s : St} (h : Inv Nm.rightB heads s) : setAll heads (outOf s.last) = s.now := by
  apply List.ext_getElem?
  intro k
  rw [h.head k]
  have hnd : ((outOf s.last).map (fun q => q.f0.toNat)).Nodup := by
    have e : (outOf s.last).map (fun q => q.f0.toNat) = ((outOf s.last).map (·.f0)).map Int.toNat := by rw [List.map_map]; rfl
    rw [e, out_f0 h.nodup, List.nodup_iff_pairwise_ne, List.pairwise_map]
    have h1 := slots_sorted h.nodup
    refine List.Pairwise.imp_of_mem (fun {a b} ha hb hab e => ?_) h1
    obtain ⟨i, _, _, rfl⟩ := slots_mem ha
    obtain ⟨j, _, _, rfl⟩ := slots_mem hb
    simp only [Int.toNat_natCast] at e
    omega
  cases hk : getK k s.last with
  | none =>
    refine setAll_out _ _ _ (fun p hp e => ?_)
    obtain ⟨j, c, hj, rfl⟩ := out_at h.nodup hp
    simp only [Int.toNat_natCast] at e
    subst e
    have := getK_mem.2 (List.mem_map.2 ⟨_, hj, rfl⟩)
    obtain ⟨v, hv⟩ := this
    simp only at hv
    rw [hk] at hv
    cases hv
  | some c =>
    have hm := getK_some hk
    have := setAll_in (outOf s.last) heads ⟨(k : Int), headOf c, valOf c, c.gone⟩ hnd (out_mem h.nodup hm) (by simpa using h.lt k (List.mem_map.2 ⟨_, hm, rfl⟩))
    simpa using this

theorem run_error (right : ByteArray → Bool) : ∀ (l : List Chg) (s : St) (f : Int), runI right s l = .error f → f = 2 ∨ f = 5 ∨ f = 7
  | [], s, f, h => by simp [runI] at h
  | c :: r, s, f, h => by
    simp only [runI] at h
    cases hs : stepI right s.now c with
    | error q =>
      rw [hs] at h
      injection h with h
      subst h
      exact step_error hs
    | ok p => rw [hs] at h; exact run_error right r _ f h
theorem row_start (W : World) (base : Nat) (hb : base ≤ W.heap.size) : Kd.string.R 9 (W.alloc (.cells #[] 9)) base (fun _ => True) (.slice (some ⟨W.heap.size, 0, none⟩) 0 0) [] :=
  Kd.R_of_own (World.ownsRow_lit (base := base) (e := 9) (size := 1) W #[] 0 hb (by simp [maxLen]) (by simp)) (fun _ _ => trivial)

set_option maxHeartbeats 4000000 in
set_option maxRecDepth 100000 in
theorem once_any (A0 : Option Addr) (c0 : Nat) (heads : List ByteArray) (A1 : Option Addr) (c1 : Nat) (l : List S35) (w : World)
    (hr0 : Kd.C Kd.string w A0 heads.length heads) (hc0 : heads.length ≤ c0) (hr1 : Kd.C k35 w A1 l.length l) (hc1 : l.length ≤ c1) (hT : Lib.Utf8Tabs 0 1 w) :
    Calls Tryd.prog 3 #[.slice A0 heads.length c0, .slice A1 l.length c1] w fun e w' => e = .returned (.bool true) ∧ Below w.heap.size w w' := by
  have HLight := Aside0.mk (light_any A0 c0 heads A1 c1 l w hr0 hc0 hr1 hc1)
  have HAlive := Aside0.mk (fun W (hb : Below w.heap.size w W) => alive_any W (Utf8Tabs_below hT hb))
  have HR0 := Aside0.mk hr0
  have HR1 := Aside0.mk hr1
  have HC0 := Aside0.mk hc0
  have HC1 := Aside0.mk hc1
  have HT := Aside0.mk hT
  clear hr0 hr1 hT hc0 hc1
  cases hl : lightB heads l
  · rw [hl] at HLight
    clear hl
    go_enter Tryd.func3, Tryd.ntmps3
    go_wp2_with (first
      | (go_at_call 5; refine HLight.out.mono ?_; rintro e w' ⟨rfl, ⟨nd, rfl⟩⟩)
      | (go_at_call 6; refine (HAlive.out _ (pw_below_drewN (Below.refl _ _) _)).mono ?_; rintro e w' ⟨rfl, hb⟩; have HB := Aside0.mk hb; clear hb))
    go_ret
    exact ⟨rfl, below_step (pw_below_drewN (Below.refl _ _) _) HB.out⟩
  · rw [hl] at HLight
    unfold lightB at hl
    simp only [Bool.and_eq_true, decide_eq_true_eq, List.all_eq_true] at hl
    obtain ⟨hl1, hl2, hl3, hl4⟩ := hl
    have HL1 := Aside0.mk hl1
    have HL2 := Aside0.mk hl2
    have HL4 := Aside0.mk hl4
    clear hl3 hl4
    go_enter Tryd.func3, Tryd.ntmps3
    go_wp2_with (first
      | (go_at_call 5; refine HLight.out.mono ?_; rintro e w' ⟨rfl, ⟨nd, rfl⟩⟩))
    go_loopw [5] (fun v5 wr => ∃ i : Nat, i ≤ heads.length ∧ v5 = .int .i64 i ∧ Aside0 (∀ j, (hj : j < heads.length) → j < i → (heads[j]).size ≠ 0 → findI heads heads[j] = some j) ∧ Aside0 (Below w.heap.size w wr)) (fun v5 _ => heads.length - (intOf v5).toNat)
    case atStart => exact ⟨0, Nat.zero_le _, rfl, ⟨fun _ _ h => absurd h (Nat.not_lt_zero _)⟩, ⟨pw_below_drewN (Below.refl _ _) _⟩⟩
    case round =>
      obtain ⟨i, hi, rfl, HF, HB⟩ := hrel
      by_cases hlt : i < heads.length
      · obtain ⟨ad, eA, x0⟩ := Kd.at_string (Kd.C_below HR0.out HB.out) (i : Int) (by omega) (by omega)
        have hrd : rdOf ByteArray.empty heads (i : Int) = heads[i] := by rw [rdOf, Int.toNat_natCast, List.getD_eq_getElem?_getD, List.getElem?_eq_getElem hlt]; rfl
        rw [hrd, Int.toNat_natCast] at x0
        have HFind := Aside0.mk (find_any A0 c0 heads heads[i] wr (Kd.C_below HR0.out HB.out) HC0.out)
        have HAl := Aside0.mk (fun nd => HAlive.out (wr.drewN nd) (pw_below_drewN HB.out nd))
        have HX := Aside0.mk (rfl : heads[i] = heads[i])
        have hi1 : IntKind.i64.wrap ((i : Int) + 1) = (i : Int) + 1 := IntWalk.i64_in _ (by have := HL1.out; omega)
        subst eA
        clear hrd
        generalize hxx : heads[i] = x at x0 HFind HX
        have HXX := Aside0.mk hxx
        clear hxx HX
        by_cases h0 : x.size = 0
        · have e1 : (x.toList == ([] : List UInt8)) = true := by rw [beq_iff_eq]; exact toList_nil.2 h0
          have e2 : (x.toList != ([] : List UInt8)) = false := by rw [bne_eq_false_iff_eq]; exact toList_nil.2 h0
          have H0 := Aside0.mk h0
          clear h0
          go_wp2
          go_roundw
          case rel => exact ⟨i + 1, by omega, by push_cast; rfl, ⟨fun j hj hji hjs => by
            rcases Nat.lt_or_ge j i with h | h
            · exact HF.out j hj h hjs
            · have hij : j = i := by omega
              subst hij
              exact absurd (HXX.out ▸ H0.out) hjs⟩, HB⟩
          case measure => simp [intOf]; omega
        · have e1 : (x.toList == ([] : List UInt8)) = false := by rw [beq_eq_false_iff_ne]; exact fun e => h0 (toList_nil.1 e)
          have e2 : (x.toList != ([] : List UInt8)) = true := by rw [bne_iff_ne]; exact fun e => h0 (toList_nil.1 e)
          clear h0
          by_cases hfi : findI heads x = some i
          · rw [hfi] at HFind
            simp only [idxI] at HFind
            have e3 : ((i : Int) != (i : Int)) = false := by simp
            have HFI := Aside0.mk hfi
            clear hfi
            go_wp2_with (first | (go_at_call 7; refine HFind.out.mono ?_; rintro e w' ⟨rfl, ⟨nd, rfl⟩⟩))
            go_roundw
            case rel => exact ⟨i + 1, by omega, by push_cast; rfl, ⟨fun j hj hji hjs => by
              rcases Nat.lt_or_ge j i with h | h
              · exact HF.out j hj h hjs
              · have hij : j = i := by omega
                subst hij
                rw [HXX.out]
                exact HFI.out⟩, ⟨pw_below_drewN HB.out _⟩⟩
            case measure => simp [intOf]; omega
          · obtain ⟨z, hz⟩ : ∃ z, z = idxI (findI heads x) := ⟨_, rfl⟩
            rw [← hz] at HFind
            have hne : z ≠ (i : Int) := by
              rw [hz]
              cases hf : findI heads x with
              | none => simp only [idxI]; omega
              | some j =>
                simp only [idxI]
                intro e
                have : j = i := by omega
                subst this
                exact hfi hf
            have e3 : (z != (i : Int)) = true := by rw [bne_iff_ne]; exact hne
            clear hz hfi hne
            go_wp2_with (first
              | (go_at_call 7; refine HFind.out.mono ?_; rintro e w' ⟨rfl, ⟨nd, rfl⟩⟩)
              | (go_at_call 6; refine (HAl.out _).mono ?_; rintro e w' ⟨rfl, hb⟩; have HB5 := Aside0.mk hb; clear hb))
            go_ret
            exact ⟨rfl, below_step (pw_below_drewN HB.out _) HB5.out⟩
      · obtain rfl : i = heads.length := by omega
        have HOnce := Aside0.mk (once_of (fun i hi hs => HF.out i hi hi hs))
        clear HF HLight
        have HPlan := Aside0.mk (plan_any A0 c0 heads A1 c1 l wr (Kd.C_below HR0.out HB.out) HC0.out (Kd.C_below HR1.out HB.out) HC1.out (by have := HL1.out; omega) (fun x hx => by have := (HL4.out x hx).1; omega) (Utf8Tabs_below HT.out HB.out))
        cases hrun : runI Nm.rightB ⟨heads, []⟩ (l.map toChg) with
        | error f =>
          rw [hrun] at HPlan
          simp only at HPlan
          have hf : (f != 0) = true := by rw [bne_iff_ne]; rcases run_error _ _ _ _ hrun with h | h | h <;> omega
          clear hrun
          go_wp2_with (first
            | (go_at_call 8; refine HPlan.out.mono ?_; rintro e w1 ⟨rfl, hb⟩; have HB1 := Aside0.mk (below_step HB.out hb); clear hb)
            | (go_at_call 6; refine (HAlive.out _ HB1.out).mono ?_; rintro e w2 ⟨rfl, hb⟩; have HB2 := Aside0.mk (below_step HB1.out hb); clear hb))
          go_ret
          exact ⟨rfl, HB2.out⟩
        | ok s =>
          rw [hrun] at HPlan
          simp only at HPlan
          have HInv := Aside0.mk (run_slots hrun)
          have HRun := Aside0.mk hrun
          clear hrun
          go_wp2_with (first
            | (go_at_call 8; refine HPlan.out.mono ?_; rintro e w1 ⟨v, rfl, hR, hb⟩; obtain ⟨PA, pc, rfl, hpc, hPC⟩ := Kd.R_reads hR; have HPC := Aside0.mk hPC; have HB1 := Aside0.mk (below_step HB.out hb); clear hb hR hPC)
            | ((with_reducible refine gate_builtin (b := .append) (xs := #[.tmp 55, .tmp 56]) rfl ?_); at_builtin; go_loud (refine Kd.R_append_row Value.string ByteArray.empty (h1 := fun _ => rfl) (w0 := w1) w1.heap.size rfl _ _ 22 9 (.string ⟨#[]⟩) 16 rfl Tryd.underlying22 info9 rfl (by decide) _ [] heads A0 heads.length c0 (fun _ => True) rfl rfl (fun _ _ => trivial) (row_start w1 _ (Nat.le_refl _)) (Kd.C_below (Kd.C_below HR0.out HB1.out) (below_alloc (Below.refl _ _) _)) (below_alloc (Below.refl _ _) _) (by simp) (by have := HL1.out; simp; omega) ?_); intro v1 w2 hR1 hB1 _ _; obtain ⟨SA, sc, rfl⟩ := Kd.R_slice hR1; have HNow := Aside0.mk hR1; have HB2 := Aside0.mk hB1; clear hR1 hB1))
          have holen : (outOf s.last).length ≤ 70 := by
            rw [outOf, List.length_map, slots_length]
            have := nodup_le heads.length (s.last.map (·.1)) HInv.out.nodup HInv.out.lt
            rw [List.length_map] at this
            have := HL1.out
            omega
          go_loopw [9] (fun v9 wr2 => ∃ i : Nat, i ≤ (outOf s.last).length ∧ v9 = .int .i64 i ∧ Aside0 (Kd.string.R 9 wr2 w1.heap.size (fun _ => True) (.slice SA heads.length sc) (setAll heads ((outOf s.last).take i))) ∧ Aside0 (Below w1.heap.size w1 wr2)) (fun v9 _ => (outOf s.last).length - (intOf v9).toNat)
          case atStart => exact ⟨0, Nat.zero_le _, rfl, HNow, HB2⟩
          case round =>
            obtain ⟨i, hi, rfl, HN, HBr⟩ := hrel
            by_cases hlt : i < (outOf s.last).length
            · have hmem : (outOf s.last)[i] ∈ outOf s.last := List.getElem_mem hlt
              obtain ⟨k, c, hkc, hp⟩ := out_at HInv.out.nodup hmem
              have hk := HInv.out.lt k (List.mem_map.2 ⟨_, hkc, rfl⟩)
              have hprev : ∀ j : Nat, (hj : j < (outOf s.last).length) → j < i → ∃ q : Nat, ((outOf s.last)[j]).f0 = (q : Int) ∧ q < k := by
                intro j hj hji
                have h1 := slots_sorted HInv.out.nodup
                rw [← out_f0 HInv.out.nodup] at h1
                have h2 := List.pairwise_iff_getElem.1 h1 j i (by simpa using hj) (by simpa using hlt) hji
                obtain ⟨q, d, _, hq⟩ := out_at HInv.out.nodup (List.getElem_mem hj)
                refine ⟨q, by rw [hq], ?_⟩
                simp only [List.getElem_map] at h2
                rw [hq, hp] at h2
                simp only at h2
                omega
              obtain ⟨ad, A2, c2, eA, x0, x1, _, _, _, _⟩ := at_T33 (Kd.C_below HPC.out HBr.out) (i : Int) (by omega) (by omega)
              have hrd : rd_T33 (outOf s.last) (i : Int) = (outOf s.last)[i] := by rw [rd_T33, Int.toNat_natCast, List.getD_eq_getElem?_getD, List.getElem?_eq_getElem hlt]; rfl
              rw [hrd, Int.toNat_natCast] at x0 x1
              rw [hp] at x0 x1
              simp only at x0 x1
              have hlen : (setAll heads ((outOf s.last).take i)).length = heads.length := setAll_length _ _
              obtain ⟨g, hg⟩ : ∃ g, SA = some ⟨g, 0, none⟩ := by
                obtain ⟨inner, ho⟩ := Kd.R_own HN.out
                obtain ⟨g, cap, h1, _, _⟩ := ho.form (by rw [hlen]; omega)
                injection h1 with h1 _ _
                exact ⟨g, h1⟩
              subst hg
              have hgb : w1.heap.size ≤ g := by
                obtain ⟨inner, ho⟩ := Kd.R_own HN.out
                exact own_base ho g rfl
              have hadb : ad.block < w1.heap.size := by
                obtain ⟨ad', _, _, e', z0, _⟩ := at_T33 HPC.out (i : Int) (by omega) (by omega)
                rw [eA] at e'
                obtain rfl := Option.some.inj e'
                have := World.block_lt_of_cell? w1 _ z0
                rwa [add_block] at this
              obtain ⟨gc, gf⟩ := Kd.R_celln ByteArray.empty HN.out (k : Int) (by omega) (by omega)
              rw [Int.toNat_natCast] at gc gf
              have hput := Kd.R_putn HN.out (k : Int) (headOf c)
              rw [Int.toNat_natCast] at hput
              have hnext : setAll heads ((outOf s.last).take (i + 1)) = (setAll heads ((outOf s.last).take i)).set k (headOf c) := by
                rw [List.take_succ_eq_append_getElem hlt, setAll_snoc, hp]; rfl
              have HPut := Aside0.mk hput
              have HNext := Aside0.mk hnext
              have hk0 : (0 : Int) ≤ (k : Int) := by omega
              have hk1 : (k : Int) < (heads.length : Int) := by omega
              have hi0 : (0 : Int) ≤ (i : Int) := by omega
              have hin : (i : Int) < ((outOf s.last).length : Int) := by omega
              have d1 : decide ((k : Int) < 0) = false := decide_eq_false (by omega)
              have d2 : decide ((heads.length : Int) ≤ (k : Int)) = false := decide_eq_false (by omega)
              have d2' : decide (heads.length ≤ k) = false := decide_eq_false (by omega)
              have hi1 : IntKind.i64.wrap ((i : Int) + 1) = (i : Int) + 1 := IntWalk.i64_in _ (by omega)
              have n1 : (ad.add (i * 4)).block ≠ g := by rw [add_block]; omega
              have x0s := (cell_far (W := wr) (p := ⟨g, k, none⟩) (a := ad.add (i * 4)) n1 (.string (headOf c))).trans x0
              have x1s := (cell_far (W := wr) (p := ⟨g, k, none⟩) (a := ⟨(ad.add (i * 4)).block, (ad.add (i * 4)).off + 1, none⟩) n1 (.string (headOf c))).trans x1
              clear hput hnext hp hrd hmem hlen
              rcases Nat.eq_zero_or_pos i with hz | hpos
              · have d3 : decide ((0 : Int) < (i : Int)) = false := decide_eq_false (by omega)
                have d3' : decide (0 < i) = false := decide_eq_false (by omega)
                subst eA
                clear hprev hz
                go_wp2
                go_quiet (fail)
                go_wp2
                go_region_held3 (fun W' => W'.cell? (ad.add (i * 4)) = some (.int .i64 (k : Int)) ∧ W'.cell? ⟨(ad.add (i * 4)).block, (ad.add (i * 4)).off + 1, none⟩ = some (.string (headOf c))) (first | exact ⟨x0, x1⟩ | exact ⟨x0s, x1s⟩) (first | fail)
                go_wp2
                go_roundw
                case rel => exact ⟨i + 1, by omega, by push_cast; rfl, ⟨by rw [HNext.out]; exact HPut.out⟩, ⟨(pw_below_drewN HBr.out _).setCell (p := ⟨g, k, none⟩) hgb _⟩⟩
                case measure => simp [intOf]; omega
              · obtain ⟨j, hj⟩ : ∃ j : Nat, i = j + 1 := ⟨i - 1, by omega⟩
                obtain ⟨q, hq, hqk⟩ := hprev j (by omega) (by omega)
                obtain ⟨ad', _, _, eA', y0, _⟩ := at_T33 (Kd.C_below HPC.out HBr.out) (j : Int) (by omega) (by omega)
                rw [eA] at eA'
                obtain rfl := Option.some.inj eA'
                have hrdj : rd_T33 (outOf s.last) (j : Int) = (outOf s.last)[j] := by rw [rd_T33, Int.toNat_natCast, List.getD_eq_getElem?_getD, List.getElem?_eq_getElem (by omega)]; rfl
                rw [hrdj, Int.toNat_natCast, hq] at y0
                have d3 : decide ((0 : Int) < (i : Int)) = true := decide_eq_true (by omega)
                have d3' : decide (0 < i) = true := decide_eq_true (by omega)
                have hw1 : IntKind.i64.wrap ((i : Int) - 1) = (j : Int) := by rw [show (i : Int) - 1 = (j : Int) by omega]; exact IntWalk.i64_in _ (by omega)
                have hj0 : (0 : Int) ≤ (j : Int) := by omega
                have hjn : (j : Int) < ((outOf s.last).length : Int) := by omega
                have d4 : decide ((k : Int) ≤ (q : Int)) = false := decide_eq_false (by omega)
                have d4' : decide (k ≤ q) = false := decide_eq_false (by omega)
                subst eA
                have HJ := Aside0.mk hj
                clear hprev hpos hj hq hqk hrdj
                go_wp2
                go_quiet (fail)
                go_wp2
                go_region_held3 (fun W' => W'.cell? (ad.add (i * 4)) = some (.int .i64 (k : Int)) ∧ W'.cell? ⟨(ad.add (i * 4)).block, (ad.add (i * 4)).off + 1, none⟩ = some (.string (headOf c))) (first | exact ⟨x0, x1⟩ | exact ⟨x0s, x1s⟩) (first | fail)
                go_wp2
                go_roundw
                case rel => exact ⟨i + 1, by omega, by push_cast; rfl, ⟨by rw [HNext.out]; exact HPut.out⟩, ⟨(pw_below_drewN HBr.out _).setCell (p := ⟨g, k, none⟩) hgb _⟩⟩
                case measure => simp [intOf]; omega
            · obtain rfl : i = (outOf s.last).length := by omega
              have hN := HN.out
              rw [List.take_length, setAll_now HInv.out] at hN
              have HNow2 := Aside0.mk hN
              have hnl := HInv.out.len
              have HNL := Aside0.mk hnl
              obtain ⟨wn, hwn⟩ : ∃ wn, wn = wr := ⟨_, rfl⟩
              have HBn : Aside0 (Below w.heap.size w wr) := ⟨below_step HB1.out HBr.out⟩
              clear hN HN hnl
              go_wp2
              go_loopw [10] (fun v10 wr2 => ∃ i : Nat, i ≤ heads.length ∧ v10 = .int .i64 i ∧ Aside0 (Kd.string.R 9 wr2 w1.heap.size (fun _ => True) (.slice SA heads.length sc) s.now) ∧ Aside0 (Below w.heap.size w wr2)) (fun v10 _ => heads.length - (intOf v10).toNat)
              case atStart => exact ⟨0, Nat.zero_le _, rfl, HNow2, HBn⟩
              case round =>
                clear HNow2 HBn
                obtain ⟨i, hi, rfl, HN, HBm⟩ := hrel
                by_cases hlt : i < heads.length
                · have hCn : Kd.string.C wr SA heads.length s.now := by have := (Kd.R_reads' HN.out).2.2; rwa [HNL.out] at this
                  have hcap : heads.length ≤ sc := by have := (Kd.R_reads' HN.out).2.1; exact this
                  have hltn : i < s.now.length := by rw [HNL.out]; exact hlt
                  obtain ⟨ad, eA, x0⟩ := Kd.at_string hCn (i : Int) (by omega) (by omega)
                  have hrd : rdOf ByteArray.empty s.now (i : Int) = s.now[i] := by rw [rdOf, Int.toNat_natCast, List.getD_eq_getElem?_getD, List.getElem?_eq_getElem hltn]; rfl
                  rw [hrd, Int.toNat_natCast] at x0
                  have hFind := find_any SA sc s.now s.now[i] wr (by rw [HNL.out]; exact hCn) (by rw [HNL.out]; exact hcap)
                  rw [HNL.out] at hFind
                  have hfi : (s.now[i]).size ≠ 0 → findI s.now s.now[i] = some i := fun h => findI_once (HInv.out.once HOnce.out) h (List.getElem?_eq_getElem hltn)
                  have hi1 : IntKind.i64.wrap ((i : Int) + 1) = (i : Int) + 1 := IntWalk.i64_in _ (by have := HL1.out; omega)
                  subst eA
                  clear hrd hCn
                  generalize hxx : s.now[i] = x at x0 hFind hfi
                  clear hxx hltn
                  by_cases h0 : x.size = 0
                  · have e1 : (x.toList == ([] : List UInt8)) = true := by rw [beq_iff_eq]; exact toList_nil.2 h0
                    have e2 : (x.toList != ([] : List UInt8)) = false := by rw [bne_eq_false_iff_eq]; exact toList_nil.2 h0
                    clear h0 hfi hFind
                    go_wp2
                    go_roundw
                    case rel => exact ⟨i + 1, by omega, by push_cast; rfl, HN, HBm⟩
                    case measure => simp [intOf]; omega
                  · have e1 : (x.toList == ([] : List UInt8)) = false := by rw [beq_eq_false_iff_ne]; exact fun e => h0 (toList_nil.1 e)
                    have e2 : (x.toList != ([] : List UInt8)) = true := by rw [bne_iff_ne]; exact fun e => h0 (toList_nil.1 e)
                    rw [hfi h0] at hFind
                    simp only [idxI] at hFind
                    have HFind := Aside0.mk hFind
                    have e3 : ((i : Int) != (i : Int)) = false := by simp
                    clear h0 hfi hFind
                    go_wp2_with (first | (go_at_call 7; refine HFind.out.mono ?_; rintro e w' ⟨rfl, ⟨nd, rfl⟩⟩))
                    go_roundw
                    case rel => exact ⟨i + 1, by omega, by push_cast; rfl, ⟨Kd.R_below HN.out (pw_below_drewN (Below.refl _ _) _)⟩, ⟨pw_below_drewN HBm.out _⟩⟩
                    case measure => simp [intOf]; omega
                · obtain rfl : i = heads.length := by omega
                  have hl40 := HL2.out
                  go_wp2
                  go_loopw [11] (fun v11 wr2 => ∃ i : Nat, i ≤ l.length ∧ v11 = .int .i64 i ∧ Aside0 (Kd.string.R 9 wr2 w1.heap.size (fun _ => True) (.slice SA heads.length sc) s.now) ∧ Aside0 (Below w.heap.size w wr2)) (fun v11 _ => l.length - (intOf v11).toNat)
                  case atStart => exact ⟨0, Nat.zero_le _, rfl, HN, HBm⟩
                  case round =>
                    clear HN HBm
                    obtain ⟨i, hi, rfl, HN, HBq⟩ := hrel
                    by_cases hlt : i < l.length
                    · have hi1 : IntKind.i64.wrap ((i : Int) + 1) = (i : Int) + 1 := IntWalk.i64_in _ (by omega)
                      obtain ⟨lw, hlw⟩ : ∃ n : Nat, n = l.length := ⟨_, rfl⟩
                      have HLT := Aside0.mk hlt
                      have HI := Aside0.mk hi
                      go_wp2
                      go_loopw [12, 13] (fun v12 v13 wr3 => ∃ (k : Nat) (b : Bool), i < k ∧ k ≤ l.length ∧ v13 = .int .i64 k ∧ v12 = .bool b ∧ Aside0 (b = true ↔ ∀ j, i < j → j < k → (rd_T35 l (j : Int)).f0 ≠ (rd_T35 l (i : Int)).f0) ∧ Aside0 (Kd.string.R 9 wr3 w1.heap.size (fun _ => True) (.slice SA heads.length sc) s.now) ∧ Aside0 (Below w.heap.size w wr3)) (fun _ v13 _ => l.length - (intOf v13).toNat)
                      case atStart => exact ⟨i + 1, true, by omega, by have := HLT.out; omega, by push_cast; rfl, rfl, ⟨⟨fun _ j h1 h2 => by omega, fun _ => rfl⟩⟩, HN, HBq⟩
                      case round =>
                        clear HN HBq
                        obtain ⟨k, b, hik, hkl, rfl, rfl, HBB, HN, HBq⟩ := hrel
                        have hk1 : IntKind.i64.wrap ((k : Int) + 1) = (k : Int) + 1 := IntWalk.i64_in _ (by omega)
                        by_cases hkk : k < l.length
                        · obtain ⟨ad, _, _, eA, x0, _, _, _, _⟩ := at_T35 (Kd.C_below HR1.out HBq.out) (k : Int) (by omega) (by omega)
                          obtain ⟨ad', _, _, eA', y0, _, _, _, _⟩ := at_T35 (Kd.C_below HR1.out HBq.out) (i : Int) (by omega) (by omega)
                          rw [eA] at eA'
                          obtain rfl := Option.some.inj eA'
                          rw [Int.toNat_natCast] at x0 y0
                          have hk0 : (0 : Int) ≤ (k : Int) := by omega
                          have hkn : (k : Int) < (l.length : Int) := by omega
                          have hi0 : (0 : Int) ≤ (i : Int) := by omega
                          have hin : (i : Int) < (l.length : Int) := by omega
                          subst eA
                          cases b
                          · have HB6 : Aside0 (false = true ↔ ∀ j, i < j → j < k + 1 → (rd_T35 l (j : Int)).f0 ≠ (rd_T35 l (i : Int)).f0) := ⟨⟨(fun h => by cases h), fun h => HBB.out.2 (fun j h1 h2 => h j h1 (by omega))⟩⟩
                            clear x0 y0 HBB
                            go_wp2
                            go_quiet (fail)
                            go_wp2
                            go_roundw
                            case rel => exact ⟨k + 1, false, by omega, by omega, by push_cast; rfl, rfl, ⟨by have := HB6.out; simpa using this⟩, ⟨Kd.R_below HN.out (pw_below_drewN (Below.refl _ _) _)⟩, ⟨pw_below_drewN HBq.out _⟩⟩
                            case measure => simp [intOf]; omega
                          · by_cases hne : (rd_T35 l (k : Int)).f0 = (rd_T35 l (i : Int)).f0
                            · have HB6 : Aside0 (false = true ↔ ∀ j, i < j → j < k + 1 → (rd_T35 l (j : Int)).f0 ≠ (rd_T35 l (i : Int)).f0) := ⟨⟨(fun h => by cases h), fun h => absurd hne (h k hik (by omega))⟩⟩
                              have e1 : ((rd_T35 l (k : Int)).f0.toList == (rd_T35 l (i : Int)).f0.toList) = true := by rw [hne]; simp
                              have e2 : ((rd_T35 l (k : Int)).f0.toList != (rd_T35 l (i : Int)).f0.toList) = false := by rw [hne]; simp
                              clear HBB hne
                              go_wp2
                              go_quiet (fail)
                              go_wp2
                              go_roundw
                              case rel => exact ⟨k + 1, false, by omega, by omega, by push_cast; rfl, rfl, ⟨by have := HB6.out; simpa using this⟩, ⟨Kd.R_below HN.out (pw_below_drewN (Below.refl _ _) _)⟩, ⟨pw_below_drewN HBq.out _⟩⟩
                              case measure => simp [intOf]; omega
                            · have HB6 : Aside0 (true = true ↔ ∀ j, i < j → j < k + 1 → (rd_T35 l (j : Int)).f0 ≠ (rd_T35 l (i : Int)).f0) := ⟨⟨fun _ j h1 h2 => by
                                rcases Nat.lt_or_ge j k with h | h
                                · exact HBB.out.1 rfl j h1 h
                                · obtain rfl : j = k := by omega
                                  exact hne, fun _ => rfl⟩⟩
                              have e1 : ((rd_T35 l (k : Int)).f0.toList == (rd_T35 l (i : Int)).f0.toList) = false := by rw [beq_eq_false_iff_ne]; exact fun e => hne (toList_inj e)
                              have e2 : ((rd_T35 l (k : Int)).f0.toList != (rd_T35 l (i : Int)).f0.toList) = true := by rw [bne_iff_ne]; exact fun e => hne (toList_inj e)
                              clear HBB hne
                              go_wp2
                              go_quiet (fail)
                              go_wp2
                              go_roundw
                              case rel => exact ⟨k + 1, true, by omega, by omega, by push_cast; rfl, rfl, ⟨by have := HB6.out; simpa using this⟩, ⟨Kd.R_below HN.out (pw_below_drewN (Below.refl _ _) _)⟩, ⟨pw_below_drewN HBq.out _⟩⟩
                              case measure => simp [intOf]; omega
                        · obtain rfl : k = l.length := by omega
                          have hlt := HLT.out
                          obtain ⟨ad, _, _, eA, x0, _, x2, _, _⟩ := at_T35 (Kd.C_below HR1.out HBq.out) (i : Int) (by omega) (by omega)
                          rw [Int.toNat_natCast] at x0 x2
                          have hrdi : rd_T35 l (i : Int) = l[i] := by rw [rd_T35, Int.toNat_natCast, List.getD_eq_getElem?_getD, List.getElem?_eq_getElem hlt]; rfl
                          have hlast : b = true → (findI s.now (rd_T35 l (i : Int)).f0 = none ↔ (rd_T35 l (i : Int)).f2 = true) := by
                            intro hb
                            have h1 := last_run (fun _ h => right_size h) (l.map toChg) ⟨heads, []⟩ s (inv_start _ _) HOnce.out HRun.out i (toChg l[i]) (by simp [hlt]) (fun j d hij hd => by
                              have hjl : j < l.length := by have := (List.getElem?_eq_some_iff.1 hd).1; simpa using this
                              have hd' : d = toChg l[j] := by
                                rw [List.getElem?_map, List.getElem?_eq_getElem hjl] at hd
                                exact (Option.some.inj hd).symm
                              have h2 := HBB.out.1 hb j hij hjl
                              have hrdj : rd_T35 l (j : Int) = l[j] := by rw [rd_T35, Int.toNat_natCast, List.getD_eq_getElem?_getD, List.getElem?_eq_getElem hjl]; rfl
                              rw [hrdj, hrdi] at h2
                              rw [hd']
                              exact h2)
                            rw [hrdi]
                            exact h1
                          have hCn : Kd.string.C wr SA heads.length s.now := by have := (Kd.R_reads' HN.out).2.2; rwa [HNL.out] at this
                          have hcap : heads.length ≤ sc := by have := (Kd.R_reads' HN.out).2.1; exact this
                          have hFind : ∀ n : Nat, Calls Tryd.prog 7 #[.slice SA heads.length sc, .string (rd_T35 l (i : Int)).f0] (wr.drewN n) fun e w' => e = .returned (.int .i64 (idxI (findI s.now (rd_T35 l (i : Int)).f0))) ∧ ∃ m, w' = wr.drewN m := fun n => by
                            have h1 := find_any SA sc s.now (rd_T35 l (i : Int)).f0 (wr.drewN n) (by rw [HNL.out]; exact hCn) (by rw [HNL.out]; exact hcap)
                            rw [HNL.out] at h1
                            refine Calls.quiet_of (h1.mono ?_)
                            rintro e w' ⟨rfl, ⟨h2⟩⟩
                            exact ⟨rfl, h2⟩
                          have hi0 : (0 : Int) ≤ (i : Int) := by omega
                          have hin : (i : Int) < (l.length : Int) := by omega
                          subst eA
                          clear hCn hcap hrdi HBB hlt
                          generalize rd_T35 l (i : Int) = x at x0 x2 hlast hFind
                          cases b
                          · clear hlast hFind x0 x2
                            go_wp2
                            go_quiet (fail)
                            go_wp2
                            go_roundw
                            case rel => exact ⟨i + 1, by have := HLT.out; omega, by push_cast; rfl, ⟨Kd.R_below HN.out (pw_below_drewN (Below.refl _ _) _)⟩, ⟨pw_below_drewN HBq.out _⟩⟩
                            case measure => have := HLT.out; simp [intOf]; omega
                          · have hl := hlast rfl
                            clear hlast
                            cases hg : x.f2
                            · rw [hg] at hl x2
                              cases hf : findI s.now x.f0 with
                              | none => exact absurd (hl.1 hf) (by simp)
                              | some q =>
                                rw [hf] at hFind
                                simp only [idxI] at hFind
                                have HFind := Aside0.mk hFind
                                have d1 : decide ((q : Int) < 0) = false := decide_eq_false (by omega)
                                clear hl hf hg hFind
                                go_wp2
                                go_quiet ((go_at_call 7; exact HFind.out _))
                                go_wp2
                                go_roundw
                                case rel => exact ⟨i + 1, by have := HLT.out; omega, by push_cast; rfl, ⟨Kd.R_below HN.out (pw_below_drewN (Below.refl _ _) _)⟩, ⟨pw_below_drewN HBq.out _⟩⟩
                                case measure => have := HLT.out; simp [intOf]; omega
                            · rw [hg] at hl x2
                              have hf := hl.2 rfl
                              rw [hf] at hFind
                              simp only [idxI] at hFind
                              have HFind := Aside0.mk hFind
                              clear hl hf hg hFind
                              go_wp2
                              go_quiet ((go_at_call 7; exact HFind.out _))
                              go_wp2
                              go_roundw
                              case rel => exact ⟨i + 1, by have := HLT.out; omega, by push_cast; rfl, ⟨Kd.R_below HN.out (pw_below_drewN (Below.refl _ _) _)⟩, ⟨pw_below_drewN HBq.out _⟩⟩
                              case measure => have := HLT.out; simp [intOf]; omega
                    · obtain rfl : i = l.length := by omega
                      go_wp2_with (first
                        | (go_at_call 6; refine (HAlive.out _ HBq.out).mono ?_; rintro e w2 ⟨rfl, hb⟩; have HB9 := Aside0.mk (below_step HBq.out hb); clear hb))
                      go_ret
                      exact ⟨rfl, HB9.out⟩
end Go.Proofs.YtmonfmmcgfmeeaaDoor.Lf
