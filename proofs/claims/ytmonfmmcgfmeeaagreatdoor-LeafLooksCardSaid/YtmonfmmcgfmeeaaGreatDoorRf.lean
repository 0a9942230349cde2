/- A loop over an iterator that keeps state of its own in cells (a captured variable that it writes): what the two owe one another, and the law of the statement. -/
import Derived.RangeFuncFrom
namespace Go.Proofs.YtmonfmmcgfmeeaaGreatDoorRf
open Go.RowKit
variable {F : Fence} {n : Nat} {P : Program}

/-- The caller's word does not mind the turn of the iterator's own blocks T, nor of a block from B on that is no cells. -/
def AbT {β : Type} (T : Nat → Prop) (B : Nat) (J : β → World → Prop) : Prop :=
  ∀ s W W' row, J s W → W.grownBy W' row → (∀ r, row = some r → T r ∨ (B ≤ r ∧ ∃ o : Obj, W.heap[r]? = some o ∧ o.isCells = false)) → J s W'

theorem AbT.putObj {β : Type} {T : Nat → Prop} {B : Nat} {I : β → World → Prop} (h : AbT T B I) {s : β} {W : World} {l : Nat} {o : Obj} (o' : Obj) (hs : I s W) (hB : B ≤ l) (hl : W.heap[l]? = some o) (ho : o.isCells = false) : I s (W.putObj l o') :=
  h s W _ (some l) hs (grownBy_putObj' W l o') (fun r e => by cases e; exact .inr ⟨hB, o, hl, ho⟩)
theorem AbT.alloc {β : Type} {T : Nat → Prop} {B : Nat} {I : β → World → Prop} (h : AbT T B I) {s : β} {W : World} (o : Obj) (hs : I s W) : I s (W.alloc o) :=
  h s W _ none hs (World.grownBy_alloc W o none) (fun r e => by cases e)

/-- The iterator's contract: whatever word J the rounds carry, if a round that goes on keeps Kp. -/
def SeqT {α : Type} (F : Fence) (n : Nat) (P : Program) (g : Nat) (lb : Array Value) (encs : α → Array Value) (T : Nat → Prop) (Kp : World → World → Prop) (S Sp : List α → Prop) (N : Nat) (w0 : World) : Prop :=
  ∀ (l : Nat) (J Jx : List α → World → Prop) (W : World), Below w0.heap.size w0 W → AbT T W.heap.size J → AbT T W.heap.size Jx →
    (∀ pre x W1, J pre W1 → pre.length < N → YieldAt F (n - 1) P l (encs x) W1 fun e W' =>
      (e = .returned (.bool true) ∧ J (pre ++ [x]) W' ∧ Kp W1 W') ∨ (e = .returned (.bool false) ∧ Jx (pre ++ [x]) W')) →
    J [] W →
    CallsIn F n P g (#[.func (.yield l) #[] #[]] ++ lb) W fun e W' => (∃ v, e = .returned v) ∧ ((∃ xs, S xs ∧ J xs W') ∨ (∃ pre, Sp pre ∧ Jx pre W'))

theorem wpIn_rangeFunc_T {α : Type} {g : Operand} {ps : Array Tmp} {assign body : Code} {Q : Exit → Act → World → Prop} {a : Act} {w : World}
    (hro : F.round = none) (h1 : 1 ≤ n) {gf : Nat} {lb : Array Value} (hg : a.eval g = .func (.func gf) #[] lb) (hFg : F.fn gf) (eg : ∀ args w, (callFunc gf args).run P w = .ok (.enter gf args) w)
    {encs : α → Array Value} {T : Nat → Prop} (hTlt : ∀ r, T r → r < w.heap.size) {Kp : World → World → Prop} {S Sp : List α → Prop} {N : Nat} {w0 : World} (hseq : SeqT F (n - 1) P gf lb encs T Kp S Sp N w0)
    (hKt : ∀ {A B C : World}, Kp A B → Kp B C → Kp A C) (hKb : ∀ (W : World) (l : Nat) (o o' : Obj), w.heap.size ≤ l → W.heap[l]? = some o → o.isCells = false → o.isWalk = false → Kp W (W.putObj l o')) (hb0 : Below w0.heap.size w0 w) (hps : ∀ x, (encs x).size = ps.size)
    (I : List α → World → Prop) (Ix : Code → List α → World → Prop) (hI : AbT T w.heap.size I) (hIx : ∀ c, AbT T w.heap.size (Ix c)) (h0 : I [] w) (a₁ : α → Act)
    (hassign : ∀ (l : Nat) (x : α) (W : World) (K : Act → World → Prop), K (a₁ x) W →
      assign.wpIn (F.inRound l) (n - 1 - 1) P (Exit.then K (fun _ _ _ => False)) { tmps := (ps.zip (encs x)).foldl (fun t (p, v) => t.setIfInBounds p v) a.tmps, defers := [] } W)
    (hbody : ∀ (l : Nat) (pre : List α) (x : α) (W : World), I pre W → pre.length < N → body.wpIn (F.inRound l) (n - 1 - 1) P (ownPostK Kp I Ix (pre ++ [x]) W) (a₁ x) W)
    (hdone : ∀ (D : Nat) (xs : List α) (W : World), w.heap.size ≤ D → S xs → I xs W → W.heap[D]? = some (.deferred (some [])) → Q .normal { a with defers := { target := .collected D, args := #[] } :: a.defers } W)
    (hstop : ∀ (D : Nat) (c : Code) (pre : List α) (W : World), w.heap.size ≤ D → Sp pre → Ix c pre W → W.heap[D]? = some (.deferred (some [])) → c.wpIn F n P Q { a with defers := { target := .collected D, args := #[] } :: a.defers } W) :
    (Code.rangeFunc g ps assign body).wpIn F n P Q a w := by
  refine wpIn_rangeFunc (fun fn hfn => ?_)
  rw [hro]
  -- the record l and the block d for the rounds' deferred calls
  let rec' : LoopState → Option Code → Loop := fun st pe => { state := st, pending := pe, fn, tmps := a.tmps, params := ps, assign, body, defers := w.heap.size }
  obtain ⟨d, hd⟩ : ∃ d, d = w.heap.size := ⟨_, rfl⟩
  obtain ⟨W1, hW1⟩ : ∃ W1, (w.alloc (.deferred (some []))).alloc (.loop (rec' .ready none)) = W1 := ⟨_, rfl⟩
  have size1 : W1.heap.size = d + 2 := by rw [← hW1, hd]; simp
  have recAt : W1.heap[d + 1]? = some (.loop (rec' .ready none)) := by
    rw [← hW1, hd]; have := World.alloc_heap_new (w.alloc (.deferred (some []))) (.loop (rec' .ready none)); rwa [World.size_alloc] at this
  have defAt : W1.heap[d]? = some (.deferred (some [])) := by
    rw [← hW1, hd]; exact (Below.heap_alloc _ _ _ (by simp)).trans (World.alloc_heap_new w _)
  have I1 : I [] W1 := by rw [← hW1]; exact hI.alloc _ (hI.alloc _ h0)
  have b1 : Below w0.heap.size w0 W1 := by
    rw [← hW1]; exact hb0.trans ((((Below.refl _ w).alloc (Nat.le_refl _) _).alloc (by simp) _).mono hb0.size)
  have dT : ∀ r, T r → r < d := fun r h => by rw [hd]; exact hTlt r h
  -- a step of the iterator's leaves the two blocks of book-keeping
  have stays : ∀ {A B : World} {row : Option Nat} {k : Nat} {o : Obj}, A.grownBy B row → (∀ r, row = some r → T r ∨ (W1.heap.size ≤ r ∧ ∃ o : Obj, A.heap[r]? = some o ∧ o.isCells = false)) → k = d ∨ k = d + 1 → A.heap[k]? = some o → B.heap[k]? = some o := by
    intro A B row k o hgr hr hk ho
    refine (hgr.block k (Array.getElem?_eq_some_iff.1 ho).1 ?_).trans ho
    intro e
    rcases hr k e.symm with h | ⟨h, _⟩
    · have := dT k h; omega
    · rw [size1] at h; omega
  have wide : ∀ {A : World} {row : Option Nat}, (∀ r, row = some r → T r ∨ (W1.heap.size ≤ r ∧ ∃ o : Obj, A.heap[r]? = some o ∧ o.isCells = false)) → (∀ r, row = some r → T r ∨ (w.heap.size ≤ r ∧ ∃ o : Obj, A.heap[r]? = some o ∧ o.isCells = false)) :=
    fun hr r e => (hr r e).imp id (fun ⟨h, ho⟩ => ⟨by rw [size1, hd] at h; omega, ho⟩)
  refine ⟨d + 1, [{ target := .collected d, args := #[] }], W1, { target := .fn (.func gf) lb, args := #[.func (.yield (d + 1)) #[] #[]] }, W1, gf, #[.func (.yield (d + 1)) #[] #[]] ++ lb, W1, ?_, ?_, ?_, ?_, fun _ => h1, ?_⟩
  · rw [← hW1, hd]; exact run_enterLoop_outer _ _ _ _ _
  · simp only [resolve, hg]
    simp [go_sem]
  · intro f' hf'; simp [Target.leads] at hf'; subst hf'; exact hFg
  · simp [invoke, go_sem, eg]
  refine (hseq (d + 1) (fun pre W => I pre W ∧ W.heap[d + 1]? = some (.loop (rec' .ready none)) ∧ W.heap[d]? = some (.deferred (some [])))
      (fun pre W => ∃ c, Ix c pre W ∧ W.heap[d + 1]? = some (.loop (rec' .done (some c))) ∧ W.heap[d]? = some (.deferred (some []))) W1 b1
      (fun s A B row hs hgr hr => ⟨hI s A B row hs.1 hgr (wide hr), stays hgr hr (.inr rfl) hs.2.1, stays hgr hr (.inl rfl) hs.2.2⟩)
      (fun s A B row hs hgr hr => by
        obtain ⟨c, hc, hl, hk⟩ := hs
        exact ⟨c, hIx c s A B row hc hgr (wide hr), stays hgr hr (.inr rfl) hl, stays hgr hr (.inl rfl) hk⟩) ?_ ⟨I1, recAt, defAt⟩).mono ?_
  · rintro pre x W ⟨hi, hl, hk⟩ hlen
    have hlt : d + 1 < W.heap.size := (Array.getElem?_eq_some_iff.1 hl).1
    refine ⟨fn, _, assign, body, run_yield (P := P) (args := encs x) hl (hps x), roundIn_of_wpIn hfn (hassign _ x W _ ⟨_, run_beginRound hl rfl, ?_⟩)⟩
    obtain ⟨V, hV⟩ : ∃ V, W.putObj (d + 1) (.loop (rec' .busy none)) = V := ⟨_, rfl⟩
    have vl : V.heap[d + 1]? = some (.loop (rec' .busy none)) := by rw [← hV]; exact World.putObj_heap_same hlt
    have vk : V.heap[d]? = some (.deferred (some [])) := by rw [← hV]; exact (World.putObj_heap_other (by omega)).trans hk
    have vw : Kp W V := by rw [← hV]; exact hKb _ _ _ _ (by omega) hl rfl rfl
    have vi : I pre V := by rw [← hV]; exact hI.putObj _ hi (by omega) hl rfl
    show body.wpIn (F.inRound (d + 1)) (n - 1 - 1) P _ (a₁ x) (W.putObj (d + 1) (.loop (rec' .busy none)))
    rw [hV]
    refine wpIn_mono (hbody _ pre x V vi hlen) ?_
    have fin : ∀ (j : Option Code) (V3 : World), KeepsOthers V V3 →
        (Instr.endRound (d + 1) j).run P V3 = .ok (.bool j.isNone) (V3.putObj (d + 1) (.loop (rec' (if j.isNone then .ready else .done) j))) ∧ V3.heap[d + 1]? = some (.loop (rec' .busy none)) ∧
        (V3.putObj (d + 1) (.loop (rec' (if j.isNone then .ready else .done) j))).heap[d + 1]? = some (.loop (rec' (if j.isNone then .ready else .done) j)) ∧
        (V3.putObj (d + 1) (.loop (rec' (if j.isNone then .ready else .done) j))).heap[d]? = some (.deferred (some [])) := fun j V3 k3 => by
      have l3 := k3.same _ _ vl rfl
      exact ⟨run_endRound (P := P) j l3, l3, World.putObj_heap_same (Array.getElem?_eq_some_iff.1 l3).1, (World.putObj_heap_other (by omega)).trans (k3.same _ _ vk rfl)⟩
    rintro e a3 V3 hp
    cases e with
    | normal =>
      obtain ⟨k3, kp3, i3⟩ := hp
      obtain ⟨hr, l3, l4, k4⟩ := fin none V3 k3
      exact ⟨_, _, hr, .inl ⟨rfl, ⟨hI.putObj _ i3 (by omega) l3 rfl, l4, k4⟩, hKt (hKt vw kp3) (hKb _ _ _ _ (by omega) l3 rfl rfl)⟩⟩
    | ret =>
      obtain ⟨k3, i3⟩ := hp
      obtain ⟨hr, l3, l4, k4⟩ := fin (some .ret) V3 k3
      exact ⟨_, _, hr, .inr ⟨rfl, .ret, (hIx _).putObj _ i3 (by omega) l3 rfl, l4, k4⟩⟩
    | exit id =>
      obtain ⟨k3, i3⟩ := hp
      obtain ⟨hr, l3, l4, k4⟩ := fin (some (.exit id)) V3 k3
      exact ⟨_, _, hr, .inr ⟨rfl, .exit id, (hIx _).putObj _ i3 (by omega) l3 rfl, l4, k4⟩⟩
    | goto t =>
      obtain ⟨k3, i3⟩ := hp
      obtain ⟨hr, l3, l4, k4⟩ := fin (some (.goto t)) V3 k3
      exact ⟨_, _, hr, .inr ⟨rfl, .goto t, (hIx _).putObj _ i3 (by omega) l3 rfl, l4, k4⟩⟩
    | panic ch => exact hp.elim
    | outgrown => exact hp.elim
  · rintro e W2 ⟨⟨v, rfl⟩, (⟨xs, hS, hi, hl, hk⟩ | ⟨pre, hSp, c, hi, hl, hk⟩)⟩
    · exact ⟨none, _, run_endLoop (P := P) hl (by simp [rec']), hdone _ xs _ (by omega) hS (hI.putObj _ hi (by omega) hl rfl) ((World.putObj_heap_other (by omega)).trans hk)⟩
    · exact ⟨some c, _, run_endLoop (P := P) hl (by simp [rec']), hstop _ c pre _ (by omega) hSp ((hIx c).putObj _ hi (by omega) hl rfl) ((World.putObj_heap_other (by omega)).trans hk)⟩
end Go.Proofs.YtmonfmmcgfmeeaaGreatDoorRf
