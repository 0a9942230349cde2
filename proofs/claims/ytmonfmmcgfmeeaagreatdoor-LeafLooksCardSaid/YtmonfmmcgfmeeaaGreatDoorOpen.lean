/- An argument, as the claim's form reads it, is read by the words of a kind: for integers, bools, strings, slices and structs of these. -/
import Derived.Test.YtmonfmmcgfmeeaaGreatDoorWWords
import Derived.Deep.Slices
import Derived.Deep.Fields
import Derived.ChangeSame
namespace Go.Proofs.YtmonfmmcgfmeeaaGreatDoorOpen
open Go.RowKit Go.ChangeShapes Go.WideShapes Go.Deep Go.Proofs.YtmonfmmcgfmeeaaGreatDoorW.PrintWords

/-- What the form reads as of type T, the kind d reads, and it is good. -/
structure Opens {α : Type} (P : Program) (T : TypeId) (d : Kd α) (G : α → Prop) : Prop where
  out : ∀ {H : Type} (enc : TypeId × Value → H) (w : World) (base : Nat) (spare : Nat → Bool) (held : Bool) (fuel : Nat) (cs : List Value) (y : DataW H × List MemPlace), DataW.trod enc P w base spare held fuel T cs = some y → ∃ x, d.K w x cs ∧ G x

theorem opens_int {P : Program} {T : TypeId} {k : IntKind} (ht : P.underlying T = some (.int k)) : Opens P T (Kd.int k) (fun n => (Lit.int k n).wf = true) := ⟨fun enc w base spare held fuel cs y h => by
  obtain ⟨n, rfl, _, hw⟩ := DataW.trod_int ht h
  exact ⟨n, rfl, hw⟩⟩
theorem opens_bool {P : Program} {T : TypeId} (ht : P.underlying T = some .bool) : Opens P T Kd.bool (fun _ => True) := ⟨fun enc w base spare held fuel cs y h => by
  obtain ⟨n, rfl, _⟩ := DataW.trod_bool ht h
  exact ⟨n, rfl, trivial⟩⟩
theorem opens_string {P : Program} {T : TypeId} (ht : P.underlying T = some .string) : Opens P T Kd.string (fun s => s.size ≤ maxLen) := ⟨fun enc w base spare held fuel cs y h => by
  obtain ⟨n, rfl, _, hw⟩ := DataW.trod_string ht h
  exact ⟨n, rfl, hw⟩⟩

theorem choose_list {α : Type} {R : Nat → α → Prop} : ∀ (n : Nat), (∀ i, i < n → ∃ x, R i x) → ∃ xs : List α, xs.length = n ∧ ∀ i x, xs[i]? = some x → R i x
  | 0, _ => ⟨[], rfl, fun i x h => by simp at h⟩
  | n + 1, h => by
    obtain ⟨xs, hl, hx⟩ := choose_list n (fun i hi => h i (by omega))
    obtain ⟨x, hr⟩ := h n (by omega)
    refine ⟨xs ++ [x], by simp [hl], fun i y hy => ?_⟩
    rcases Nat.lt_or_ge i xs.length with hi | hi
    · rw [List.getElem?_append_left hi] at hy
      exact hx i y hy
    · have : i = xs.length := by
        have := (List.getElem?_eq_some_iff.1 hy).1
        simp at this
        omega
      subst this
      simp at hy
      subst hy
      rw [hl]
      exact hr

theorem opens_slice {α : Type} {P : Program} {T e : TypeId} {d : Kd α} {G : α → Prop} (ht : P.underlying T = some (.slice e)) (hC : P.cellsOf e = d.sz) (he : Opens P e d G) : Opens P T (Kd.slice e d) (fun xs => ∀ x ∈ xs, G x) := ⟨fun enc w base spare held fuel cs y h => by
  rcases open_slice ht h with ⟨rfl, _⟩ | ⟨a, len, cap, m, n, D, Pl, rfl, hb, hl, hm, hmm, hx, hi⟩
  · exact ⟨[], ⟨none, 0, rfl, Nat.le_refl _, rfl, by simp, fun h => by simp at h⟩, fun x hx => by simp at hx⟩
  · have hlm : len ≤ m := by rw [hmm]; split <;> omega
    obtain ⟨xs, hxl, hxs⟩ := choose_list (R := fun i x => (∃ cs', w.cells? base (a.add (i * P.cellsOf e)) (P.cellsOf e) = some cs' ∧ d.K w x cs') ∧ G x) len (fun i hil => by
      obtain ⟨cs', hc, htr⟩ := hi i (by omega)
      obtain ⟨x, hk, hg⟩ := he.out enc w base spare held n cs' _ htr
      exact ⟨x, ⟨cs', hc, hk⟩, hg⟩)
    subst hxl
    refine ⟨xs, ⟨some a, cap, rfl, hl, rfl, by unfold maxLen at hm; omega, fun _ => ⟨a, rfl, fun j p hj => ?_⟩⟩, fun x hx => ?_⟩
    · obtain ⟨⟨cs', hc, hk⟩, _⟩ := hxs j p hj
      obtain ⟨_, hcl, hat⟩ := World.cells?_some hc
      refine ⟨cs', by rw [hcl, hC], hk, fun i u hu => ?_⟩
      have hil : i < P.cellsOf e := by rw [← hcl]; exact (List.getElem?_eq_some_iff.1 hu).1
      rw [← hC, ← Go.Deep.add_add, hat i hil]
      exact hu
    · obtain ⟨j, hj, rfl⟩ := List.getElem_of_mem hx
      exact (hxs j _ (List.getElem?_eq_getElem hj)).2⟩

/-- The cells from a field's place on: that field and all behind it, as a chain of pairs. -/
structure OpensF {α : Type} (P : Program) (fs : List Field) (off : Nat) (d : Kd α) (G : α → Prop) : Prop where
  out : ∀ {H : Type} (enc : TypeId × Value → H) (w : World) (base : Nat) (spare : Nat → Bool) (held : Bool) (fuel : Nat) (cs : List Value), cs.length = off + d.sz →
    (∀ f ∈ fs, ∃ y, DataW.trod enc P w base spare held fuel f.type ((cs.drop f.offset).take (P.cellsOf f.type)) = some y) → ∃ x, d.K w x (cs.drop off) ∧ G x

theorem opensF_last {α : Type} {P : Program} {f : Field} {d : Kd α} {G : α → Prop} (h : Opens P f.type d G) (hC : P.cellsOf f.type = d.sz) : OpensF P [f] f.offset d G := ⟨fun enc w base spare held fuel cs hl hf => by
  obtain ⟨y, hy⟩ := hf f (by simp)
  rw [List.take_of_length_le (by rw [List.length_drop]; omega)] at hy
  exact h.out enc w base spare held fuel _ y hy⟩

theorem opensF_cons {α β : Type} {P : Program} {f : Field} {fs : List Field} {off : Nat} {d : Kd α} {e : Kd β} {G : α → Prop} {E : β → Prop} (h : Opens P f.type d G) (hC : P.cellsOf f.type = d.sz) (ho : off = f.offset + d.sz) (hr : OpensF P fs off e E) :
    OpensF P (f :: fs) f.offset (Kd.pair d e) (fun x => G x.1 ∧ E x.2) := ⟨fun enc w base spare held fuel cs hl hf => by
  obtain ⟨y, hy⟩ := hf f (by simp)
  have hsz : (Kd.pair d e).sz = d.sz + e.sz := rfl
  rw [hsz] at hl
  rw [hC] at hy
  obtain ⟨x, hx, gx⟩ := h.out enc w base spare held fuel _ y hy
  obtain ⟨z, hz, gz⟩ := hr.out enc w base spare held fuel cs (by omega) (fun g hg => hf g (by simp [hg]))
  refine ⟨(x, z), ⟨_, _, (List.take_append_drop d.sz _).symm, hx, ?_⟩, gx, gz⟩
  rw [List.drop_drop, ← ho]
  exact hz⟩

theorem opens_struct {α : Type} {P : Program} {T : TypeId} {fs : Array Field} {d : Kd α} {G : α → Prop} (ht : P.underlying T = some (.struct fs)) (hC : P.cellsOf T = d.sz) (h : OpensF P fs.toList 0 d G) : Opens P T d G := ⟨fun enc w base spare held fuel cs y hy => by
  obtain ⟨xs, n, _, _, hl, hxl, hf⟩ := DataW.trod_struct ht hy
  refine h.out enc w base spare held n cs (by omega) (fun f hf' => ?_)
  obtain ⟨i, hi, rfl⟩ := List.getElem_of_mem hf'
  have hi' : i < fs.size := by simpa using hi
  have := hf i fs[i] (by simp [hi'])
  exact ⟨xs[i]'(by omega), by simpa [List.getElem?_eq_getElem (show i < xs.length by omega)] using this⟩⟩

theorem opens_iso {α β : Type} {P : Program} {T : TypeId} {d : Kd α} {G : α → Prop} {E : β → Prop} (f : β → α) (g : α → β) (hfg : ∀ x, f (g x) = x) (hE : ∀ x, G x → E (g x)) (h : Opens P T d G) : Opens P T (Kd.iso d f) E := ⟨fun enc w base spare held fuel cs y hy => by
  obtain ⟨x, hx, gx⟩ := h.out enc w base spare held fuel cs y hy
  exact ⟨g x, by show d.K w (f (g x)) cs; rw [hfg]; exact hx, hE x gx⟩⟩
end Go.Proofs.YtmonfmmcgfmeeaaGreatDoorOpen
