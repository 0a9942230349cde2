/- slices.Sorted(maps.Keys(m)) of a map of ints to ints: its keys, in order. -/
import Derived.Test.YtpmlofbpiajkbaaGreatDoorShE
import Derived.Test.YtpmlofbpiajkbaaGreatDoorMu
import Derived.Below
import Derived.RowKit
import Derived.WideKeyEntry
import Derived.Shelf.SlIterI.Keys
import Derived.Shelf.SlIterI.Sorted
import Derived.Shelf.SlIterI.Nil
import Derived.Shelf.Sort.Plain
namespace Go.Proofs.YtpmlofbpiajkbaaGreatDoor.M2
open Go Go.RowKit Go.Shelf Go.Maps Go.Sort
set_option linter.unusedVariables false
set_option linter.unusedSimpArgs false
noncomputable section
theorem perm_insert {H : Type} (x : Lit × DataW H) : ∀ l : List (Lit × DataW H), (DataW.insert x l).Perm (x :: l)
  | [] => List.Perm.refl _
  | y :: r => by
    unfold DataW.insert
    split
    · exact List.Perm.refl _
    · exact ((perm_insert x r).cons y).trans (List.Perm.swap x y r)
theorem perm_sorted {H : Type} : ∀ l : List (Lit × DataW H), (l.foldr DataW.insert []).Perm l
  | [] => List.Perm.refl _
  | x :: r => by
    rw [List.foldr_cons]
    exact (perm_insert x _).trans ((perm_sorted r).cons x)
def Rh : Value → Option (DataW Value × List MemPlace) := fun v => some (.held v, [])
section
variable {P : Program} {k : TypeId} {es : Array MapEntry} {clock : Nat} {ks : List Nat}
theorem keys_own (hk : P.underlying k = some (.int .i64)) (hes : es.toList.map (·.key) = ks.map (fun q : Nat => Value.int .i64 (q : Int))) (hnd : ks.Nodup) (hborn : ∀ e ∈ es.toList, e.born < clock) (hbn : (es.toList.map (·.born)).Nodup)
    (hb : ∀ q ∈ ks, q < 9223372036854775807) (hl : ks.length ≤ 1000000) {w : World} {b : Nat} (hm : w.heap[b]? = some (.map es clock)) :
    ∃ D0 : DataW Value, w.ownsMap P k Rh b ks.length D0 ∧ (intKeys D0).Perm (ks.map fun q : Nat => (q : Int)) ∧ Maps.size D0 = ks.length := by
  have hlen : es.toList.length = ks.length := by
    have := congrArg List.length hes
    simpa using this
  have hrd : ∀ x ∈ es.toList, ∃ q : Nat, q ∈ ks ∧ WideElems.rd P k Rh x = some (.int .i64 (q : Int), .held x.val) ∧ x.key = .int .i64 (q : Int) := by
    intro x hx
    have hxk : x.key ∈ es.toList.map (·.key) := List.mem_map.2 ⟨x, hx, rfl⟩
    rw [hes] at hxk
    obtain ⟨q, hq, h1⟩ := List.mem_map.1 hxk
    have hq2 := hb q hq
    have hw : (Lit.int .i64 ((q : Nat) : Int)).wf = true := by
      simp [Lit.wf, IntKind.min, IntKind.max, IntKind.signed, IntKind.bits]
      omega
    have hkey : keyOf P k x.key = some (.int .i64 ((q : Nat) : Int)) := by
      rw [← h1]
      simp [keyOf, hk, mapKey, hw]
    exact ⟨q, hq, by simp [WideElems.rd, hkey, Rh], h1.symm⟩
  refine ⟨_, ⟨es, clock, hm, ⟨?_, ⟨hborn, hbn, ?_⟩, fun x hx => ?_⟩, ?_, rfl⟩, ?_, ?_⟩
  · rw [Array.length_toList] at hlen
    simp only [maxLen]
    omega
  · rw [hes]
    rw [List.nodup_iff_pairwise_ne, List.pairwise_map]
    rw [List.nodup_iff_pairwise_ne] at hnd
    exact hnd.imp (fun h e => h (by injection e with _ e; omega))
  · obtain ⟨q, _, h, _⟩ := hrd x hx
    exact ⟨_, h⟩
  · rw [Array.length_toList] at hlen
    omega
  · show ((List.foldr DataW.insert [] (List.map (WideElems.rg P k Rh) es.toList)).map fun p => Go.intOf p.1).Perm _
    refine ((perm_sorted _).map _).trans ?_
    rw [List.map_map]
    have : es.toList.map ((fun p => Go.intOf p.1) ∘ WideElems.rg P k Rh) = ks.map (fun q : Nat => (q : Int)) := by
      have h1 : es.toList.map ((fun p => Go.intOf p.1) ∘ WideElems.rg P k Rh) = (es.toList.map (·.key)).map (fun v => match v with | .int _ a => a | _ => 0) := by
        rw [List.map_map]
        apply List.map_congr_left
        intro x hx
        obtain ⟨q, _, h, h2⟩ := hrd x hx
        simp [WideElems.rg_of h, h2, Go.intOf]
      rw [h1, hes, List.map_map]
      rfl
    rw [this]
  · show (List.foldr DataW.insert [] (List.map (WideElems.rg P k Rh) es.toList)).length = ks.length
    rw [(perm_sorted _).length_eq, List.length_map, hlen]
end
theorem sorts (m : Nat) : AnyZI.SortsIn Tryz.prog Tryz.sortedA_ren Fence.wide m :=
  ⟨fun blk off cap ss W hH hblk hsz => callsIn_wide.2 (Any.slices_Sort_int Tryz.lays189 blk off cap ss W hH hblk hsz),
   fun p cap W => callsIn_wide.2 (Any.slices_Sort_int_none Tryz.lays189 p cap W)⟩
theorem sorted_any {es : Array MapEntry} {clock : Nat} {ks : List Nat} (hes : es.toList.map (·.key) = ks.map (fun q : Nat => Value.int .i64 (q : Int))) (hnd : ks.Nodup) (hborn : ∀ e ∈ es.toList, e.born < clock) (hbn : (es.toList.map (·.born)).Nodup)
    (hb : ∀ q ∈ ks, q < 9223372036854775807) (hl : ks.length ≤ 1000000) (w : World) (Bm b : Nat) (hm : w.heap[b]? = some (.map es clock)) (hBm : Bm < w.heap.size) (hc : w.cell? ⟨Bm, 0, none⟩ = some (.map (some b))) :
    CallsIn Fence.wide 5 Tryz.prog 112 #[.func (.func 179) #[] #[.pointer (some ⟨Bm, 0, none⟩)]] w fun e w' => ∃ v t, e = .returned v ∧ w'.ownsRow w.heap.size t 1 v ks.length (((ks.map fun q : Nat => (q : Int)).mergeSort fun x y => decide (x ≤ y)).map encZ) ∧ RowKit.Below w.heap.size w w' := by
  obtain ⟨D0, hown, hperm, hsize⟩ := keys_own (P := Tryz.prog) (k := 3) Tryz.underlying3 hes hnd hborn hbn hb hl hm
  have hseq : SeqGives Fence.wide 2 Tryz.prog 179 #[.pointer (some ⟨Bm, 0, none⟩)] encZ (fun ss => ss.Perm (intKeys D0)) (Maps.size D0) w :=
    AnyZI.keys_gives (ρ := Tryz.keysA_ren) { Tryz.keysA with } Fence.wide _ trivial rfl (by omega) Bm b ks.length D0 w hBm hc hown
  have cS := AnyZI.sorted_in Tryz.sortedA Fence.wide 5 trivial trivial trivial trivial rfl (by omega) (sorts _) (enters_of Tryz.func178 (by kernel_rfl) rfl) 179 #[.pointer (some ⟨Bm, 0, none⟩)] trivial (enters_of Tryz.func179 (by kernel_rfl) rfl) _ _ (by rw [hsize]; simp only [maxLen]; omega) (by rw [hsize]; omega) _ hseq
  refine CallsIn.mono cS ?_
  rintro e w' ⟨v, ss, rfl, hS, hrow, _, hbel⟩
  have hp := hS.trans hperm
  have hsort : (ss.mergeSort fun x y => decide (x ≤ y)) = ((ks.map fun q : Nat => (q : Int)).mergeSort fun x y => decide (x ≤ y)) := mergeSort_of_perm_i hp
  have hlen : ss.length = ks.length := by rw [hp.length_eq, List.length_map]
  rw [hsort, hlen] at hrow
  exact ⟨v, _, rfl, hrow, hbel⟩

/-! ### As the interpreter asks it -/
def insN (x : Nat) : List Nat → List Nat
  | [] => [x]
  | y :: r => cnd (Nat.ble x y) (x :: y :: r) (y :: insN x r)
def srtN : List Nat → List Nat
  | [] => []
  | x :: r => insN x (srtN r)
theorem insN_perm (x : Nat) : ∀ l, (insN x l).Perm (x :: l)
  | [] => List.Perm.refl _
  | y :: r => by
    unfold insN
    rw [cnd_eq]
    split
    · exact List.Perm.refl _
    · exact ((insN_perm x r).cons y).trans (List.Perm.swap x y r)
theorem srtN_perm : ∀ l, (srtN l).Perm l
  | [] => List.Perm.refl _
  | x :: r => (insN_perm x _).trans ((srtN_perm r).cons x)
theorem insN_sorted (x : Nat) : ∀ l : List Nat, l.Pairwise (· ≤ ·) → (insN x l).Pairwise (· ≤ ·)
  | [], _ => by simp [insN]
  | y :: r, h => by
    unfold insN
    rw [cnd_eq]
    rw [List.pairwise_cons] at h
    split
    · rename_i hb
      have hb := Nat.le_of_ble_eq_true hb
      refine List.pairwise_cons.2 ⟨fun z hz => ?_, List.pairwise_cons.2 h⟩
      rcases List.mem_cons.1 hz with rfl | hz
      · exact hb
      · exact Nat.le_trans hb (h.1 z hz)
    · rename_i hb
      have hb : ¬ x ≤ y := fun hh => hb (Nat.ble_eq_true_of_le hh)
      refine List.pairwise_cons.2 ⟨fun z hz => ?_, insN_sorted x r h.2⟩
      rcases List.mem_cons.1 ((insN_perm x r).mem_iff.1 hz) with rfl | hz
      · omega
      · exact h.1 z hz
theorem srtN_sorted : ∀ l : List Nat, (srtN l).Pairwise (· ≤ ·)
  | [] => List.Pairwise.nil
  | x :: r => insN_sorted x _ (srtN_sorted r)
theorem srtN_merge (ks : List Nat) : ((ks.map fun q : Nat => (q : Int)).mergeSort fun x y => decide (x ≤ y)) = (srtN ks).map fun q : Nat => (q : Int) := by
  have h1 : ((ks.map fun q : Nat => (q : Int)).mergeSort fun x y => decide (x ≤ y)) = (((srtN ks).map fun q : Nat => (q : Int)).mergeSort fun x y => decide (x ≤ y)) :=
    mergeSort_of_perm_i ((srtN_perm ks).symm.map _)
  rw [h1]
  refine List.mergeSort_of_pairwise ?_
  rw [List.pairwise_map]
  exact (srtN_sorted ks).imp fun h => by simpa using h
def keysN : List (AV × AV × Nat) → Option (List Nat)
  | [] => some []
  | (.int .i64 (.ofNat q), _, _) :: r => match keysN r with
    | some l => some (q :: l)
    | none => none
  | _ => none
def memN (i : Nat) : List Nat → Bool
  | [] => false
  | j :: r => cnd (Nat.beq i j) true (memN i r)
def fewN (n : Nat) : List Nat → Bool
  | [] => true
  | x :: r => cnd (Nat.blt x n) (cnd (memN x r) false (fewN n r)) false
def memE : List (AV × AV × Nat) → List Nat
  | [] => []
  | (_, _, b) :: r => b :: memE r
theorem fewN_ok (n : Nat) : ∀ l, fewN n l = true → l.Nodup ∧ ∀ x ∈ l, x < n
  | [], _ => ⟨List.nodup_nil, fun x h => by cases h⟩
  | x :: r, h => by
    unfold fewN at h
    simp only [cnd_eq] at h
    split at h
    · rename_i hlt
      split at h
      · cases h
      · rename_i hm
        obtain ⟨h1, h2⟩ := fewN_ok n r h
        have hmem : ∀ (l : List Nat), x ∈ l → memN x l = true := by
          intro l
          induction l with
          | nil => intro h; cases h
          | cons y l ih =>
            intro h
            unfold memN
            rw [cnd_eq]
            split
            · rfl
            · rename_i hb
              rcases List.mem_cons.1 h with rfl | h
              · exact absurd (Nat.beq_refl x) hb
              · exact ih h
        refine ⟨List.nodup_cons.2 ⟨fun hx => hm (hmem r hx), h1⟩, fun z hz => ?_⟩
        rcases List.mem_cons.1 hz with rfl | hz
        · simpa [Nat.blt_eq] using hlt
        · exact h2 z hz
    · cases h
def srt3 (ah : AH) (es : List (AV × AV × Nat)) (clock : Nat) : Option (List Nat) → Option (AV × AH)
  | some (k :: ks) => cnd (fewN 1000000 (k :: ks) && (fewN clock (memE es) && Nat.ble (k :: ks).length 1000000)) (some (.slice ah.next 0 (k :: ks).length (.own 1), ah.new (.cells ((srtN (k :: ks)).map fun q => .int .i64 (Int.ofNat q))))) none
  | _ => none
def srt2 (ah : AH) : Option AObj → Option (AV × AH)
  | some (.map es clock) => srt3 ah es clock (keysN es)
  | _ => none
def srt1 (ah : AH) : Option AObj → Option (AV × AH)
  | some (.cells (.map m :: _)) => srt2 ah (ah.get m)
  | _ => none
def srtG (args : List AV) (ah : AH) : Option (AV × AH) :=
  match args with
  | [.fn f [] [.ptr b 0]] => cnd (Nat.beq f 179) (srt1 ah (ah.get b)) none
  | _ => none
theorem Stp.newAt {φ : Phi} {ah : AH} {w w' : World} (h : HR φ ah w) {o : AObj} {o' : Obj} {g z : Nat} (hg : w.heap.size ≤ g) (hw : w'.heap[g]? = some o') (hs : w.heap.size ≤ w'.heap.size) (hk : ∀ c, c < w.heap.size → w'.heap[c]? = w.heap[c]?) (hv : Env w w') (ho : OR (φ.add ah.next g z) z o o') :
    Stp φ ah w (φ.add ah.next g z) (ah.new o) w' := by
  have hle : φ.le (φ.add ah.next g z) := Phi.le_add h.none_next
  have hlt := (Array.getElem?_eq_some_iff.1 hw).1
  have hphi : ∀ b c z', φ.add ah.next g z b = some (c, z') → (b = ah.next ∧ c = g ∧ z' = z) ∨ (b ≠ ah.next ∧ φ b = some (c, z') ∧ c < w.heap.size) := by
    intro b c z' e
    unfold Phi.add at e
    split at e
    · rename_i hb; cases e; exact .inl ⟨hb, rfl, rfl⟩
    · rename_i hb; exact .inr ⟨hb, e, (h.dom _ _ _ e).2⟩
  refine ⟨hle, fun b hb => ?_, Nat.le_succ _, ⟨?_, ?_, ?_⟩, ⟨hs, fun c hc _ => hk c hc⟩, ?_, hv⟩
  · unfold Phi.add; rw [if_neg (by omega)]
  · intro b ob c z' hb e
    rw [AH.get_new] at hb
    rcases hphi b c z' e with ⟨rfl, rfl, rfl⟩ | ⟨hne, e2, hc⟩
    · rw [if_pos rfl] at hb; cases hb
      exact ⟨o', hw, ho⟩
    · rw [if_neg hne] at hb
      obtain ⟨o2, h1, h2⟩ := h.obj b ob c z' hb e2
      exact ⟨o2, (hk c hc).trans h1, h2.mono hle⟩
  · intro b b2 ob ob2 c z1 z2 hb hb2 e1 e2
    rw [AH.get_new] at hb hb2
    rcases hphi b c z1 e1 with ⟨rfl, rfl, rfl⟩ | ⟨hne, f1, hc⟩ <;> rcases hphi b2 _ z2 e2 with ⟨rfl, hcc, rfl⟩ | ⟨hne2, f2, hc2⟩
    · rfl
    · omega
    · subst hcc; omega
    · rw [if_neg hne] at hb; rw [if_neg hne2] at hb2
      exact h.inj b b2 ob ob2 c z1 z2 hb hb2 f1 f2
  · intro b c z' e
    rcases hphi b c z' e with ⟨rfl, rfl, rfl⟩ | ⟨hne, f1, hc⟩
    · exact ⟨Nat.lt_succ_self _, hlt⟩
    · exact ⟨Nat.lt_succ_of_lt (h.dom _ _ _ f1).1, by omega⟩
  · intro b ob c z' hb e hc
    rw [AH.get_new] at hb
    rcases hphi b c z' e with ⟨rfl, rfl, rfl⟩ | ⟨hne, f1, hc2⟩
    · omega
    · rw [if_neg hne] at hb; exact ⟨b, ob, z', hb, f1⟩
theorem keysN_ok {φ : Phi} : ∀ {es : List (AV × AV × Nat)} {ks : List Nat} {es' : List MapEntry}, keysN es = some ks → ERs φ es es' → es'.map (·.key) = ks.map (fun q : Nat => Value.int .i64 (q : Int)) ∧ es'.map (·.born) = memE es
  | [], ks, es', e, h => by cases e; cases h; exact ⟨rfl, rfl⟩
  | (k, v, b) :: r, ks, _, e, h => by
    cases h with
    | cons h1 h2 h3 h4 =>
      unfold keysN at e
      split at e
      · rename_i heq; cases heq
      · rename_i q v2 b2 r2 heq
        cases heq
        split at e
        · rename_i l hl
          cases e
          obtain ⟨i1, i2⟩ := keysN_ok hl h4
          generalize hk : MapEntry.key _ = kk at h1
          cases h1
          refine ⟨?_, ?_⟩
          · rw [List.map_cons, List.map_cons, i1, hk]; rfl
          · rw [List.map_cons, i2, h3]; rfl
        · cases e
      · cases e
theorem srt_ok (B : Phi) {args : List AV} {ah ah' : AH} {v : AV} (e : srtG args ah = some (v, ah')) : CallOk Tryz.prog B 112 args ah v ah' := by
  intro φ w args' _ h hv
  unfold srtG at e
  split at e
  · rename_i f b
    rw [cnd_eq] at e
    split at e
    · rename_i hf
      have hf := Nat.eq_of_beq_eq_true hf
      subst hf
      unfold srt1 at e
      split at e
      · rename_i m rest hb
        unfold srt2 at e
        split at e
        · rename_i es clock hmm
          unfold srt3 at e
          split at e
          · rename_i k ks hks
            rw [cnd_eq] at e
            split at e
            · rename_i hc
              cases e
              rw [Bool.and_eq_true, Bool.and_eq_true] at hc
              obtain ⟨c1, c2, c3⟩ := hc
              obtain ⟨n1, n2⟩ := fewN_ok _ _ c1
              obtain ⟨n3, n4⟩ := fewN_ok _ _ c2
              obtain ⟨args'⟩ := args'
              have hv : VRs φ _ args' := hv
              cases hv with
              | cons q1 t =>
                cases t
                cases q1 with
                | @fn _ _ _ a1 a2 r1 r2 =>
                  obtain ⟨a1⟩ := a1
                  obtain ⟨a2⟩ := a2
                  have r1 : VRs φ _ a1 := r1
                  have r2 : VRs φ _ a2 := r2
                  cases r1
                  cases r2 with
                  | cons p1 pt =>
                    cases pt
                    cases p1 with
                    | @ptr _ cb zb _ hpb =>
                      obtain ⟨ob, o1, o2⟩ := h.obj _ _ _ _ hb hpb
                      cases o2 with
                      | @cells _ c' tt fr hs hl hcc hfz h1 =>
                        have hcell : ∃ mm zm, φ m = some (mm, zm) ∧ w.cell? ⟨cb, 0, none⟩ = some (.map (some mm)) := by
                          obtain ⟨c'⟩ := c'
                          cases c' with
                          | nil => simp at hcc; cases hcc
                          | cons x r =>
                            have hcc : VRs φ (.map m :: rest) (x :: r.take rest.length) := hcc
                            cases hcc with
                            | cons u1 _ =>
                              cases u1 with
                              | map hpm => exact ⟨_, _, hpm, by rw [cell_at o1]; rfl⟩
                        obtain ⟨mm, zm, hpm, hcell⟩ := hcell
                        obtain ⟨om, m1, m2⟩ := h.obj _ _ _ _ hmm hpm
                        cases m2 with
                        | @map _ es' _ hE =>
                          obtain ⟨k1, k2⟩ := keysN_ok hks hE
                          have hblt := (h.dom _ _ _ hpb).2
                          have hcall := sorted_any k1 n1 (fun x hx => n4 _ (by rw [← k2]; exact List.mem_map.2 ⟨x, hx, rfl⟩)) (by rw [k2]; exact n3) (fun q hq => by have := n2 q hq; omega) (Nat.le_of_ble_eq_true c3) w cb mm m1 hblt hcell
                          refine .inr ⟨?_, ?_⟩
                          · have hfn := Tryz.func112
                            unfold callFunc
                            simp only [Sem.run_bind, run_program, Result.andThen_ok, hfn]
                            rfl
                          · have hcall := (callsIn_wide (n := 0)).2 (callsIn_wide.1 hcall)
                            refine CallsIn.mono hcall ?_
                            rintro en w' ⟨v', t', rfl, hrow, hbel⟩
                            obtain ⟨hlen, hrow⟩ := hrow
                            rcases hrow with ⟨_, h0⟩ | ⟨g, cap, cur, rfl, hg, hcur, hcap, _, hsz, htk⟩
                            · simp at h0
                            · rw [srtN_merge] at htk
                              rw [Nat.mul_one] at htk hsz
                              have hl2 : ((srtN (k :: ks)).map fun q => AV.int .i64 (Int.ofNat q)).length = (k :: ks).length := by
                                rw [List.length_map, (srtN_perm _).length_eq]
                              have hor : ∀ ψ : Phi, OR ψ cap (.cells ((srtN (k :: ks)).map fun q => AV.int .i64 (Int.ofNat q))) (.cells cur t' (0, 0)) := fun ψ => by
                                refine .cells hsz (by rw [hl2]; exact hcap) ?_ (.inl rfl) ?_
                                · rw [hl2, htk]
                                  generalize srtN (k :: ks) = l
                                  induction l with
                                  | nil => exact .nil
                                  | cons x l ih => exact .cons (.int _ _) ih
                                · intro u hu
                                  rw [hl2, htk] at hu
                                  obtain ⟨x, _, rfl⟩ := List.mem_map.1 hu
                                  rfl
                              exact ⟨_, Stp.newAt h hg hcur hbel.size (fun c hc => hbel.block c hc) ⟨hbel.os, hbel.tape, hbel.output⟩ (hor _), .slice 0 _ cap 1 (Phi.add_self _ _ _ _) hcap (by omega)⟩
            · cases e
          · cases e
        · cases e
      · cases e
    · cases e
  · cases e
end
end Go.Proofs.YtpmlofbpiajkbaaGreatDoor.M2
