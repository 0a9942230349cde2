/- slices.Sorted(maps.Keys(m)) of a plan's map: its slots, in order. -/
import Derived.Test.YtmonfmmcgfmeeaaGreatDoorShA
import Derived.Test.YtmonfmmcgfmeeaaGreatDoorShB
import Derived.Test.YtmonfmmcgfmeeaaGreatDoorMp
import Derived.Test.YtmonfmmcgfmeeaaGreatDoorWWords
namespace Go.Proofs.YtmonfmmcgfmeeaaGreatDoor.Lf
open Go.RowKit Go.Shelf Go.Maps Go.Sort Go.Proofs.YtmonfmmcgfmeeaaGreatDoorW.PrintWords Go.Proofs.YtmonfmmcgfmeeaaGreatDoor.Mp
set_option linter.unusedVariables false
set_option linter.unusedSimpArgs false

theorem perm_insert {H : Type} (x : Lit × DataW H) : ∀ l : List (Lit × DataW H), (DataW.insert x l).Perm (x :: l)
  | [] => List.Perm.refl _
  | y :: r => by
    unfold DataW.insert
    split
    · exact List.Perm.refl _
    · exact ((perm_insert x r).cons y).trans (List.Perm.swap x y r)
theorem perm_sorted {H : Type} : ∀ l : List (Lit × DataW H), (l.foldr DataW.insert []).Perm l
  | [] => List.Perm.refl _
  | x :: r => by
    rw [List.foldr_cons]
    exact (perm_insert x _).trans ((perm_sorted r).cons x)

def Rh : Value → Option (DataW Value × List MemPlace) := fun v => some (.held v, [])
def keysZ {α : Type} (last : List (Nat × α)) : List Int := last.map (fun p => (p.1 : Int))

section
variable {α : Type} {P : Program} {k : TypeId} {es : Array MapEntry} {clock : Nat} {Rel : Nat → α → Value → Prop} {last : List (Nat × α)}

theorem ents_keyAt (E : Ents Rel es clock last) : es.toList.map (·.key) = last.map (fun p => Value.int .i64 (p.1 : Int)) := by
  apply List.ext_getElem?
  intro i
  rw [List.getElem?_map, List.getElem?_map]
  rcases Nat.lt_or_ge i last.length with h | h
  · have h' : i < es.toList.length := by rw [E.len]; exact h
    have e1 := List.getElem?_eq_getElem h'
    have e2 := List.getElem?_eq_getElem h
    rw [e1, e2]
    simp only [Option.map_some]
    rw [(E.at_ i _ _ e1 e2).1]
  · rw [List.getElem?_eq_none (by rw [E.len]; exact h), List.getElem?_eq_none h]; rfl

theorem ents_owns (hk : P.underlying k = some (.int .i64)) (E : Ents Rel es clock last) (hb : ∀ q ∈ last.map (·.1), q < 9223372036854775807) (hl : last.length ≤ 1000000) {w : World} {b : Nat} (hm : w.heap[b]? = some (.map es clock)) :
    ∃ D0 : DataW Value, w.ownsMap P k Rh b last.length D0 ∧ (intKeys D0).Perm (keysZ last) ∧ Maps.size D0 = last.length := by
  have hrd : ∀ x ∈ es.toList, ∃ q : Nat, q ∈ last.map (·.1) ∧ WideElems.rd P k Rh x = some (.int .i64 (q : Int), .held x.val) ∧ x.key = .int .i64 (q : Int) := by
    intro x hx
    obtain ⟨i, hi⟩ := List.getElem?_of_mem hx
    have hlt := (List.getElem?_eq_some_iff.1 hi).1
    rw [E.len] at hlt
    have hp := List.getElem?_eq_getElem hlt
    obtain ⟨h1, _⟩ := E.at_ i x _ hi hp
    have hq := hb (last[i]).1 (List.mem_map.2 ⟨_, List.getElem_mem hlt, rfl⟩)
    refine ⟨(last[i]).1, List.mem_map.2 ⟨_, List.getElem_mem hlt, rfl⟩, ?_, h1⟩
    have hw : (Lit.int .i64 (((last[i]).1 : Nat) : Int)).wf = true := by
      simp [Lit.wf, IntKind.min, IntKind.max, IntKind.signed, IntKind.bits]
      omega
    have hkey : keyOf P k x.key = some (.int .i64 (((last[i]).1 : Nat) : Int)) := by
      rw [h1]
      simp [keyOf, hk, mapKey, hw]
    simp [WideElems.rd, hkey, Rh]
  refine ⟨_, ⟨es, clock, hm, ⟨?_, ⟨E.born, E.nd, ?_⟩, fun x hx => ?_⟩, ?_, rfl⟩, ?_, ?_⟩
  · have := E.len
    rw [Array.length_toList] at this
    simp only [maxLen]
    omega
  · rw [ents_keyAt E]
    have := E.keys
    rw [List.nodup_iff_pairwise_ne, List.pairwise_map] at this ⊢
    exact this.imp (fun h e => h (by injection e with _ e; omega))
  · obtain ⟨q, _, h, _⟩ := hrd x hx
    exact ⟨_, h⟩
  · have := E.len
    rw [Array.length_toList] at this
    omega
  · show ((List.foldr DataW.insert [] (List.map (WideElems.rg P k Rh) es.toList)).map fun p => Go.intOf p.1).Perm (keysZ last)
    refine ((perm_sorted _).map _).trans ?_
    rw [List.map_map]
    have : es.toList.map ((fun p => Go.intOf p.1) ∘ WideElems.rg P k Rh) = keysZ last := by
      have h1 : es.toList.map ((fun p => Go.intOf p.1) ∘ WideElems.rg P k Rh) = (es.toList.map (·.key)).map (fun v => match v with | .int _ a => a | _ => 0) := by
        rw [List.map_map]
        apply List.map_congr_left
        intro x hx
        obtain ⟨q, _, h, h2⟩ := hrd x hx
        simp [WideElems.rg_of h, h2, Go.intOf]
      rw [h1, ents_keyAt E, List.map_map]
      rfl
    rw [this]
  · show (List.foldr DataW.insert [] (List.map (WideElems.rg P k Rh) es.toList)).length = last.length
    rw [(perm_sorted _).length_eq, List.length_map, E.len]
end

theorem sorts (m : Nat) : AnyZI.SortsIn Tryz.prog Tryz.sortedA_ren Fence.wide m :=
  ⟨fun blk off cap ss W hH hblk hsz => callsIn_wide.2 (Any.slices_Sort_int Tryz.lays189 blk off cap ss W hH hblk hsz),
   fun p cap W => callsIn_wide.2 (Any.slices_Sort_int_none Tryz.lays189 p cap W)⟩

theorem keys_any (mb : Option Nat) (W : World) : Calls Tryz.prog 25 #[.map mb] W fun e w' => e = .returned (.func (.func 37) #[] #[.pointer (some ⟨W.heap.size, 0, none⟩)]) ∧ w' = W.alloc (.cells #[.map mb] 46) :=
  (callsIn_wide (n := 5)).1 (AnyZI.keys_in Tryz.keysA Fence.wide 5 trivial rfl mb W)

theorem sorted_any {α : Type} {es : Array MapEntry} {clock : Nat} {Rel : Nat → α → Value → Prop} {last : List (Nat × α)} (E : Ents Rel es clock last) (hb : ∀ q ∈ last.map (·.1), q < 9223372036854775807) (hl : last.length ≤ 1000000) (w : World) (Bm b : Nat) (hm : w.heap[b]? = some (.map es clock)) (hBm : Bm < w.heap.size) (hc : w.cell? ⟨Bm, 0, none⟩ = some (.map (some b))) :
    Calls Tryz.prog 24 #[.func (.func 37) #[] #[.pointer (some ⟨Bm, 0, none⟩)]] w fun e w' => ∃ v, e = .returned v ∧ (Kd.int .i64).R 3 w' w.heap.size (fun _ => True) v ((keysZ last).mergeSort (fun x y => decide (x ≤ y))) ∧ Below w.heap.size w w' := by
  obtain ⟨D0, hown, hperm, hsize⟩ := ents_owns (P := Tryz.prog) (k := 3) Tryz.underlying3 E hb hl hm
  have hseq : SeqGives Fence.wide 2 Tryz.prog 37 #[.pointer (some ⟨Bm, 0, none⟩)] encZ (fun ss => ss.Perm (intKeys D0)) (Maps.size D0) w :=
    AnyZI.keys_gives (ρ := Tryz.keysA_ren) { Tryz.keysA with } Fence.wide _ trivial rfl (by omega) Bm b last.length D0 w hBm hc hown
  have cS := AnyZI.sorted_in Tryz.sortedA Fence.wide 5 trivial trivial trivial trivial rfl (by omega) (sorts _) (enters_of Tryz.func36 (by kernel_rfl) rfl) 37 #[.pointer (some ⟨Bm, 0, none⟩)] trivial (enters_of Tryz.func37 (by kernel_rfl) rfl) _ _ (by rw [hsize]; simp only [maxLen]; omega) (by rw [hsize]; omega) _ hseq
  refine (callsIn_wide.1 cS).mono ?_
  rintro e w' ⟨v, ss, rfl, hS, hrow, _, hbel⟩
  have hsort : (ss.mergeSort fun x y => decide (x ≤ y)) = (keysZ last).mergeSort (fun x y => decide (x ≤ y)) := mergeSort_of_perm_i (hS.trans hperm)
  refine ⟨v, rfl, Kd.R_of_own ?_ (fun _ _ => trivial), hbel⟩
  have hlen : ((keysZ last).mergeSort (fun x y => decide (x ≤ y))).length = ss.length := by rw [← hsort, List.length_mergeSort]
  rw [hlen, ← hsort]
  exact hrow
end Go.Proofs.YtmonfmmcgfmeeaaGreatDoor.Lf
