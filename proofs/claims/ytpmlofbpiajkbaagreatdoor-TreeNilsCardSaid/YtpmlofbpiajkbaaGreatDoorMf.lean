/- A verified interpreter: what it says of addresses, parts, new blocks and values is so. -/
import Derived.Test.YtpmlofbpiajkbaaGreatDoorMe
set_option linter.unusedVariables false
set_option linter.unusedSimpArgs false
namespace Go.Proofs.YtpmlofbpiajkbaaGreatDoor.M2
open Go
variable {P : Program} {φ : Phi} {ah : AH} {w : World}
/-- A new row. -/
theorem Stp.row (h : HR φ ah w) {cs : List AV} {a : Array Value} {c' : Array Value} (hc : VRs φ cs a.toList) (h1 : ∀ v ∈ a.toList, v.oneCell' = true) (t : TypeId) :
    Stp φ ah w (φ.add ah.next w.heap.size a.size) (ah.new (.cells cs)) (w.alloc (.cells a t)) := by
  have hlen : cs.length = a.size := by rw [hc.length, Array.length_toList]
  refine Stp.new h (.cells rfl (by omega) ?_ (.inl rfl) (fun v hv => h1 v (List.mem_of_mem_take hv)))
  rw [hlen, List.take_of_length_le (by rw [Array.length_toList]; exact Nat.le_refl _)]
  exact hc.mono (Phi.le_add h.none_next)
theorem Phi.add_self (φ : Phi) (b c z : Nat) : φ.add b c z b = some (c, z) := if_pos rfl
theorem part_run {t : TypeId} {cs : List AV} {a : Array Value} {off : Nat} {y : AV} (hc : VRs φ cs a.toList) (h1 : ∀ v ∈ a.toList, v.oneCell' = true) (e : partA P.underlying P.info? t cs off = some y) (w : World) :
    ∃ v, (part t a off).run P w = .ok v w ∧ VR φ y v := by
  unfold partA at e
  split at e
  · rename_i n hag hn
    cases e
    refine ⟨.agg (a.extract off (off + n)), ?_, .agg ?_ ?_⟩
    · simp only [part, Sem.run_bind, isAg_run hag, szOf_run hn, Result.andThen_ok, if_true, Sem.run_pure]
    · have := (hc.drop off).take n
      rw [Array.toList_extract]
      simpa [List.extract_eq_take_drop] using this
    · intro v hv
      rw [Array.toList_extract] at hv
      simp only [List.extract_eq_take_drop] at hv
      exact h1 v (List.mem_of_mem_drop (List.mem_of_mem_take hv))
  · rename_i hag
    obtain ⟨v, hv, hr⟩ := hc.get off e
    refine ⟨v, ?_, hr⟩
    rw [Array.getElem?_toList] at hv
    simp only [part, Sem.run_bind, isAg_run hag, Result.andThen_ok, Bool.false_eq_true, if_false, hv, Sem.run_pure]
  · cases e
theorem fieldAddr_runs (h : HR φ ah w) {s : TypeId} {x y : AV} {x' : Value} {f : Nat} (hx : VR φ x x') (e : fieldAddrA P.underlying P.info? s x f = some y) : Runs P φ ah w (Instr.fieldAt s x' f) y ah := by
  unfold fieldAddrA at e
  split at e
  · rename_i fs b o hu
    cases hx with
    | ptr o hp =>
      split at e
      · rename_i fd hfd
        split at e
        · rename_i n hn
          rw [cnd_eq] at e
          split at e
          · cases e
          · rename_i hb
            cases e
            have hn0 : n ≠ 0 := fun h0 => hb (by rw [h0]; rfl)
            rw [Array.getElem?_toList] at hfd
            refine Runs.still h ?_ (.ptr (o + fd.offset) hp)
            simp only [Instr.fieldAt, Instr.sureAddr, fieldPlace, Sem.run_bind, run_underlying hu w, hfd, Result.andThen_ok, Sem.run_pure, szOf_run hn, if_neg hn0, Addr.add_mid]
        · cases e
      · cases e
  · cases e
theorem field_runs (h : HR φ ah w) {s : TypeId} {x y : AV} {x' : Value} {f : Nat} (hx : VR φ x x') (e : fieldA P.underlying P.info? s x f = some y) : Runs P φ ah w (Instr.field s x' f) y ah := by
  unfold fieldA at e
  split at e
  · rename_i fs cs hu
    cases hx with
    | agg hc h1 =>
      split at e
      · rename_i fd hfd
        rw [Array.getElem?_toList] at hfd
        obtain ⟨v, hv, hr⟩ := part_run hc h1 e w
        refine Runs.still h ?_ hr
        simp only [Instr.field, asAgg, Sem.run_bind, run_underlying hu w, hfd, Result.andThen_ok, Sem.run_pure, hv]
      · cases e
  · cases e
theorem asI_int {x : AV} {x' : Value} {n : Int} (hx : VR φ x x') (e : asI x = some n) : ∃ k, x' = .int k n := by
  unfold asI at e
  split at e
  · cases e; cases hx; exact ⟨_, rfl⟩
  · cases e
theorem indexAddr_runs (h : HR φ ah w) {t : TypeId} {x i y : AV} {x' i' : Value} (hx : VR φ x x') (hi : VR φ i i') (e : indexAddrA P.underlying P.info? t x i = some y) : Runs P φ ah w (Instr.indexAt t x' i') y ah := by
  unfold indexAddrA at e
  split at e
  · cases e
  · rename_i n hn
    obtain ⟨k, rfl⟩ := asI_int hi hn
    split at e
    · rename_i len el b o hu
      cases hx with
      | ptr o hp =>
        split at e
        · rename_i s hs
          rw [cnd_eq] at e
          split at e
          · rename_i hb
            cases e
            rw [Bool.and_eq_true, decide_eq_true_iff, decide_eq_true_iff] at hb
            refine Runs.still h ?_ (.ptr (o + n.toNat * s) hp)
            simp only [Instr.indexAt, Instr.sureAddr, asIntOf, Sem.run_bind, run_underlying hu w, Result.andThen_ok, Sem.run_pure, Sem.run_ite, if_pos hb, szOf_run hs, Addr.add_mid]
          · cases e
        · cases e
    · rename_i el b o len c hu
      split at e
      · rename_i s hs
        rw [cnd_eq] at e
        split at e
        · rename_i hb
          cases e
          rw [Bool.and_eq_true, decide_eq_true_iff, decide_eq_true_iff] at hb
          cases hx with
          | slice o n2 cap sz hp hn hz =>
            refine Runs.still h ?_ (.ptr (o + n.toNat * s) hp)
            simp only [Instr.indexAt, Instr.sureAddr, asIntOf, Sem.run_bind, run_underlying hu w, Result.andThen_ok, Sem.run_pure, Sem.run_ite, if_pos hb, szOf_run hs, Addr.add_mid]
          | sliceK o n2 cap hp =>
            refine Runs.still h ?_ (.ptr (o + n.toNat * s) hp)
            simp only [Instr.indexAt, Instr.sureAddr, asIntOf, Sem.run_bind, run_underlying hu w, Result.andThen_ok, Sem.run_pure, Sem.run_ite, if_pos hb, szOf_run hs, Addr.add_mid]
        · cases e
      · cases e
    · rename_i el b o tt ccc lo hi hu
      split at e
      · rename_i s hs
        rw [cnd_eq] at e
        split at e
        · rename_i hb
          cases e
          rw [Bool.and_eq_true, decide_eq_true_iff, decide_eq_true_iff] at hb
          cases hx with
          | @slt _ c z _ ct zt _ _ _ _ nn hp ht hn h1 h2 =>
            have hb2 : 0 ≤ n ∧ n < nn := ⟨hb.1, by omega⟩
            refine Runs.still h ?_ (.ptr (o + n.toNat * s) hp)
            simp only [Instr.indexAt, Instr.sureAddr, asIntOf, Sem.run_bind, run_underlying hu w, Result.andThen_ok, Sem.run_pure, Sem.run_ite, if_pos hb2, szOf_run hs, Addr.add_mid]
        · cases e
      · cases e
    · cases e
theorem index_runs (h : HR φ ah w) {t : TypeId} {x i y : AV} {x' i' : Value} (hx : VR φ x x') (hi : VR φ i i') (e : indexA P.underlying P.info? t x i = some y) : Runs P φ ah w (Instr.index t x' i') y ah := by
  unfold indexA at e
  split at e
  · cases e
  · rename_i n hn
    obtain ⟨k, rfl⟩ := asI_int hi hn
    split at e
    · rename_i len el cs hu
      cases hx with
      | agg hc h1 =>
        split at e
        · rename_i s hs
          rw [cnd_eq] at e
          split at e
          · rename_i hb
            rw [Bool.and_eq_true, decide_eq_true_iff, decide_eq_true_iff] at hb
            obtain ⟨v, hv, hr⟩ := part_run hc h1 e w
            refine Runs.still h ?_ hr
            simp only [Instr.index, asIntOf, Sem.run_bind, run_underlying hu w, Result.andThen_ok, Sem.run_pure, Sem.run_ite, if_pos hb, szOf_run hs, hv]
          · cases e
        · cases e
    · rename_i s hu
      rw [cnd_eq] at e
      split at e
      · rename_i hb
        rw [decide_eq_true_iff] at hb
        cases hx with
        | str s =>
          split at e
          · rename_i c hc
            cases e
            rw [List.getElem?_map] at hc
            obtain ⟨u, hu8, rfl⟩ := Option.map_eq_some_iff.1 hc
            have hs8 : s[n.toNat]? = some u := by
              rw [Array.getElem?_toList] at hu8
              obtain ⟨hlt, he⟩ := Array.getElem?_eq_some_iff.1 hu8
              exact getElem?_eq_some_iff.2 ⟨hlt, he⟩
            refine Runs.still h ?_ (.int .u8 u.toNat)
            simp only [Instr.index, asIntOf, Sem.run_bind, run_underlying hu w, Result.andThen_ok, Sem.run_pure, if_pos hb, hs8]
          · cases e
      · cases e
    · cases e
end Go.Proofs.YtpmlofbpiajkbaaGreatDoor.M2
