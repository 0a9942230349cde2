/- A verified interpreter: what it says of copy, lengths, conversions, interfaces is so. -/
import Derived.Test.YtpmlofbpiajkbaaGreatDoorMi
import Derived.Laws.BytesString
set_option linter.unusedVariables false
set_option linter.unusedSimpArgs false
namespace Go.Proofs.YtpmlofbpiajkbaaGreatDoor.M2
open Go
section
variable {P : Program} {φ : Phi} {ah : AH} {w : World}
theorem lenA_run {x : AV} {x' : Value} {n : Nat} (hx : VR φ x x') (e : lenA ah x = some n) (w : World) : (Builtin.lenOf x').run P w = .ok n w := by
  cases hx with
  | str s =>
    have e : some ((s.data.toList.map (·.toNat)).length) = some n := e
    have := Option.some.inj e
    rw [← this, List.length_map, Array.length_toList]; rfl
  | nils => cases e; rfl
  | empty a c => cases e; rfl
  | slice o n0 cap sz hp hn hz => cases e; rfl
  | sliceK o n0 cap hp => cases e; rfl
  | _ => cases e
theorem first_run (h : HR φ ah w) {x : AV} {x' : Value} {sz n : Nat} {cs : List AV} (hx : VR φ x x') (hf : firstA ah sz n x = some cs) : ∃ vs : List Value, (Builtin.firstCells sz n x').run P w = .ok vs.toArray w ∧ VRs φ cs vs ∧ ∀ u ∈ vs, u.oneCell' = true := by
  cases hx with
  | str s =>
    have hf : cnd (Nat.beq sz 1 && Nat.beq n (s.data.toList.map (·.toNat)).length) (some ((s.data.toList.map (·.toNat)).map fun c : Nat => AV.int .u8 (c : Int))) none = some cs := hf
    rw [cnd_eq] at hf
    split at hf
    · rename_i hb
      rw [Bool.and_eq_true] at hb
      have h1 := Nat.eq_of_beq_eq_true hb.1
      have h2 := Nat.eq_of_beq_eq_true hb.2
      cases hf
      have hns : n = s.size := by rw [h2, List.length_map, Array.length_toList]; rfl
      subst h1 hns
      exact ⟨byteCells s, firstCells_string s w, bytes_VRs φ s, fun u hu => by obtain ⟨_, _, rfl⟩ := List.mem_map.1 hu; rfl⟩
    · cases hf
  | nils => cases hf; exact ⟨[], rfl, .nil, fun _ h => by cases h⟩
  | empty a c =>
    have hf : cnd (Nat.beq n 0) (some []) none = some cs := hf
    rw [cnd_eq] at hf
    split at hf
    · rename_i hb
      have hn := Nat.eq_of_beq_eq_true hb
      subst hn
      cases hf
      exact ⟨[], run_firstCells_some w sz 0 a 0 c [] (by simp) (fun j u hu => by simp at hu), .nil, fun _ h => by cases h⟩
    · cases hf
  | @slice b c z o n0 cap sz2 hp hnn hz =>
    have hf : segA ah b o (n * sz) = some cs := hf
    unfold segA at hf
    split at hf
    · rename_i l hl
      obtain ⟨vs, k1, k2, k3, k4, _⟩ := h.seg hl hp hf
      exact ⟨vs, run_firstCells_some w sz n _ n0 cap vs k1 (fun j u hu => by rw [Addr.add_mid]; exact k3 j u hu), k2, k4⟩
    · cases hf
  | @sliceK b c z o n0 cap hp =>
    have hf : segA ah b o (n * sz) = some cs := hf
    unfold segA at hf
    split at hf
    · rename_i l hl
      obtain ⟨vs, k1, k2, k3, k4, _⟩ := h.seg hl hp hf
      exact ⟨vs, run_firstCells_some w sz n _ n0 cap vs k1 (fun j u hu => by rw [Addr.add_mid]; exact k3 j u hu), k2, k4⟩
    · cases hf
  | _ => cases hf
theorem copy_runs (h : HR φ ah w) {ts : Array TypeId} {ty : TypeId} {d x y : AV} {d' x' : Value} {ah' : AH} (hd : VR φ d d') (hx : VR φ x x') (e : copyA P.underlying P.info? ah ts.toList d x = some (y, ah')) : Runs P φ ah w (Builtin.copy_ ts ty #[d', x']) y ah' := by
  unfold copyA at e
  split at e
  · rename_i t tr hts
    have ht0 : ts[0]? = some t := by rw [← Array.getElem?_toList, hts]; rfl
    split at e
    · rename_i el ht
      split at e
      · rename_i sz dn xn hsz hdn hxn
        split at e
        · rename_i cs hcs
          obtain ⟨vs, k1, k2, k3⟩ := first_run (P := P) h hx hcs
          have hxl := lenA_run (P := P) hx hxn w
          split at e
          · cases e
            cases hd
            cases hdn
            refine Runs.still h (v' := .int .i64 0) ?_ (.int _ _)
            have k1 : (Builtin.firstCells sz (xn.min 0) x').run P w = .ok vs.toArray w := k1
            simp only [Builtin.copy_, ht0, List.getElem?_toArray, List.getElem?_cons_zero, List.getElem?_cons_succ, Sem.run_bind, run_underlying ht w, Result.andThen_ok, hxl, szOf_run hsz, k1, Sem.run_pure]
            simp [goInt, Nat.min_def]
          · cases e
            cases hd
            cases hdn
            have hv0 : vs = [] := by
              have hl := k2.length
              have : cs = [] := by
                have hm : min xn 0 = 0 := Nat.min_zero xn
                rw [hm] at hcs
                cases hx with
                | str s0 =>
                  have hf : cnd (Nat.beq sz 1 && Nat.beq 0 (s0.data.toList.map (·.toNat)).length) (some ((s0.data.toList.map (·.toNat)).map fun c : Nat => AV.int .u8 (c : Int))) none = some cs := hcs
                  rw [cnd_eq] at hf
                  split at hf
                  · rename_i hb
                    rw [Bool.and_eq_true] at hb
                    have h2 := Nat.eq_of_beq_eq_true hb.2
                    cases hf
                    rw [← List.length_eq_zero_iff, List.length_map]; exact h2.symm
                  · cases hf
                | nils => cases hcs; rfl
                | empty a c => cases hcs; rfl
                | slice o n0 cap sz2 hp hnn hz =>
                  have hf : segA ah _ o (0 * sz) = some cs := hcs
                  unfold segA at hf
                  split at hf
                  · rw [Nat.zero_mul] at hf
                    unfold M2.seg at hf
                    rw [cnd_eq] at hf
                    split at hf
                    · cases hf; simp
                    · cases hf
                  · cases hf
                | sliceK o n0 cap hp =>
                  have hf : segA ah _ o (0 * sz) = some cs := hcs
                  unfold segA at hf
                  split at hf
                  · rw [Nat.zero_mul] at hf
                    unfold M2.seg at hf
                    rw [cnd_eq] at hf
                    split at hf
                    · cases hf; simp
                    · cases hf
                  · cases hf
                | _ => cases hcs
              rw [this] at hl
              exact List.length_eq_zero_iff.1 hl.symm
            subst hv0
            refine Runs.still h (v' := .int .i64 0) ?_ (.int _ _)
            have k1 : (Builtin.firstCells sz (xn.min 0) x').run P w = .ok #[] w := k1
            simp only [Builtin.copy_, ht0, List.getElem?_toArray, List.getElem?_cons_zero, List.getElem?_cons_succ, Sem.run_bind, run_underlying ht w, Result.andThen_ok, hxl, szOf_run hsz, k1, Sem.run_pure]
            simp [goInt, Nat.min_def, storeCells]
          · rename_i b o n c
            split at e
            · rename_i ah2 hput
              cases e
              have hdn : n = dn := by cases hdn; rfl
              subst hdn
              have go : ∀ (c0 z0 dc : Nat), φ b = some (c0, z0) → Runs P φ ah w (Builtin.copy_ ts ty #[.slice (some ⟨c0, o, none⟩) n dc, x']) (.int .i64 (min xn n : Nat)) ah' := by
                intro c0 z0 dc hp
                obtain ⟨q1, q2⟩ := putA_runs (P := P) h hp k2 k3 hput
                refine ⟨φ, .int .i64 (min xn n : Nat), _, ?_, q2, .int _ _⟩
                have k1 : (Builtin.firstCells sz (xn.min n) x').run P w = .ok vs.toArray w := k1
                simp only [Builtin.copy_, ht0, List.getElem?_toArray, List.getElem?_cons_zero, List.getElem?_cons_succ, Sem.run_bind, run_underlying ht w, Result.andThen_ok, hxl, szOf_run hsz, k1, List.toList_toArray, q1, Sem.run_pure, goInt]
              cases hd with
              | slice o n0 cap sz2 hp hnn hz => exact go _ _ _ hp
              | sliceK o n0 cap hp => exact go _ _ _ hp
            · cases e
          · cases e
        · cases e
      · cases e
    · cases e
  · cases e
theorem len_runs (h : HR φ ah w) {ts : Array TypeId} {ty : TypeId} {x y : AV} {x' : Value} (hx : VR φ x x') (e : lenOpA P.underlying P.info? ah ts.toList x = some y) : Runs P φ ah w (Builtin.len_ ts ty #[x']) y ah := by
  unfold lenOpA at e
  split at e
  · rename_i t hts
    have ht0 : ts[0]? = some t := by rw [← Array.getElem?_toList, hts]; rfl
    have hx0 : (#[x'] : Array Value)[0]? = some x' := rfl
    split at e
    · rename_i s hu
      cases e
      cases hx with
      | str s =>
        refine Runs.still h (v' := .int .i64 (s.size : Nat)) ?_ ?_
        · simp only [Builtin.len_, ht0, hx0, Sem.run_bind, run_underlying hu w, Result.andThen_ok, Sem.run_pure, goInt]
        · rw [List.length_map, Array.length_toList]; exact .int _ _
    · rename_i n el hu
      cases e
      refine Runs.still h (v' := .int .i64 (n : Nat)) ?_ (.int _ _)
      simp only [Builtin.len_, ht0, hx0, Sem.run_bind, run_underlying hu w, Result.andThen_ok, Sem.run_pure, goInt]
    · rename_i el hu
      cases e; cases hx
      refine Runs.still h (v' := .int .i64 0) ?_ (.int _ _)
      simp only [Builtin.len_, ht0, hx0, Sem.run_bind, run_underlying hu w, Result.andThen_ok, Sem.run_pure, goInt]
      rfl
    · rename_i el hu
      cases e; cases hx
      refine Runs.still h (v' := .int .i64 0) ?_ (.int _ _)
      simp only [Builtin.len_, ht0, hx0, Sem.run_bind, run_underlying hu w, Result.andThen_ok, Sem.run_pure, goInt]
      rfl
    · rename_i el b o n c hu
      cases e
      cases hx <;> (refine Runs.still h (v' := .int .i64 (n : Nat)) ?_ (.int _ _); simp only [Builtin.len_, ht0, hx0, Sem.run_bind, run_underlying hu w, Result.andThen_ok, Sem.run_pure, goInt])
    · rename_i el b o tt ccc lo hi hu
      cases e
      cases hx with
      | @slt _ c z _ ct zt _ _ _ _ nn hp ht hn h1 h2 =>
        refine Runs.still h (v' := .int .i64 (nn : Nat)) ?_ (.tok .i64 false ccc lo hi nn ht (by simpa using hn) (by omega) (by omega))
        simp only [Builtin.len_, ht0, hx0, Sem.run_bind, run_underlying hu w, Result.andThen_ok, Sem.run_pure, goInt]
    · rename_i k el hu
      cases e; cases hx
      refine Runs.still h (v' := .int .i64 0) ?_ (.int _ _)
      simp only [Builtin.len_, ht0, hx0, Sem.run_bind, run_underlying hu w, Result.andThen_ok, Sem.run_pure, goInt]
    · rename_i k el b hu
      split at e
      · rename_i es clock hb
        cases e
        cases hx with
        | map hp =>
          obtain ⟨o', h1, h2⟩ := h.obj b _ _ _ hb hp
          cases h2 with
          | map he =>
            rename_i es'
            have hl : es.length = es'.size := by
              rw [← Array.length_toList]
              generalize es'.toList = r at he
              clear h1 hb
              induction he with
              | nil => rfl
              | cons _ _ _ _ ih => simp [ih]
            refine Runs.still h (v' := .int .i64 (es'.size : Nat)) ?_ (by rw [hl]; exact .int _ _)
            simp only [Builtin.len_, ht0, hx0, Sem.run_bind, run_underlying hu w, Result.andThen_ok, Sem.run_pure, goInt, getObj, Sem.run, h1]
      · cases e
    · cases e
  · cases e
theorem max_runs (h : HR φ ah w) {ts : Array TypeId} {ty : TypeId} {l : List AV} {l' : Array Value} {y : AV} (hl : VRs φ l l'.toList) (e : maxA l = some y) : Runs P φ ah w (Builtin.max_ ts ty l') y ah := by
  unfold maxA at e
  split at e
  · cases e
    obtain ⟨l'⟩ := l'
    cases hl with
    | cons a t => cases a; cases t with | cons b t2 => cases b; cases t2; exact Runs.still h rfl (.int _ _)
  · cases e
theorem min_runs (h : HR φ ah w) {ts : Array TypeId} {ty : TypeId} {l : List AV} {l' : Array Value} {y : AV} (hl : VRs φ l l'.toList) (e : minA l = some y) : Runs P φ ah w (Builtin.min_ ts ty l') y ah := by
  unfold minA at e
  split at e
  · cases e
    obtain ⟨l'⟩ := l'
    cases hl with
    | cons a t => cases a; cases t with | cons b t2 => cases b; cases t2; exact Runs.still h rfl (.int _ _)
  · cases e
end
end Go.Proofs.YtpmlofbpiajkbaaGreatDoor.M2
