/- A verified interpreter: what it says of interfaces, conversions, maps made is so. -/
import Derived.Test.YtpmlofbpiajkbaaGreatDoorMj
set_option linter.unusedVariables false
set_option linter.unusedSimpArgs false
namespace Go.Proofs.YtpmlofbpiajkbaaGreatDoor.M2
open Go
section
variable {P : Program} {φ : Phi} {ah : AH} {w : World}
theorem iface_runs (h : HR φ ah w) {t : TypeId} {x : AV} {x' : Value} {r : ORes} (hx : VR φ x x') (e : oIface2 ah t (P.underlying t) x = some r) : r = .val (.iface t x) ah ∧ Runs P φ ah w (Instr.makeInterface t x') (.iface t x) ah := by
  unfold oIface2 at e
  split at e
  · cases e
  · rename_i d hd hu
    cases e
    refine ⟨rfl, Runs.still h ?_ (.iface hx)⟩
    rename_i hn
    simp only [Instr.makeInterface, Sem.run_bind, run_underlying hu w, Result.andThen_ok]
    cases d <;> first | rfl | exact absurd rfl (hn _)
  · cases e
theorem makeMap_runs (h : HR φ ah w) (t : TypeId) : Runs P φ ah w (Instr.makeMap t none) (.map ah.next) (ah.new (.map [] 0)) :=
  ⟨_, _, _, rfl, Stp.new (z := 0) h (.map (es' := #[]) .nil), .map (Phi.add_self _ _ _ _)⟩
theorem assert_runs (h : HR φ ah w) {t xt : TypeId} {ok : Bool} {x y : AV} {x' : Value} (hx : VR φ x x') (e : assertA P.underlying P.info? x t ok = some y) : Runs P φ ah w (Instr.typeAssert x' xt t ok) y ah := by
  unfold assertA at e
  split at e
  · cases e
  · rename_i d u v hni hu
    cases hx with
    | iface hv =>
      rename_i v'
      have hnot : ∀ ms, d ≠ .interface ms := fun ms hh => hni ms hh
      rw [cnd_eq] at e
      split at e
      · rename_i hb
        have hb := Nat.eq_of_beq_eq_true hb
        subst hb
        cases e
        refine Runs.still h (v' := if ok then .tuple #[v', .bool true] else v') ?_ ?_
        · simp only [Instr.typeAssert, Sem.run_bind, run_underlying hu w, Result.andThen_ok]
          cases d <;> first | exact absurd rfl (hnot _) | (simp; done)
        · cases ok
          · exact hv
          · exact .tup (a := #[v', .bool true]) (.cons hv (.cons (.bool true) .nil))
      · rename_i hb
        have hb : ¬ u = t := fun hh => hb (by rw [hh]; exact Nat.beq_refl t)
        rw [cnd_eq] at e
        split at e
        · rename_i hok
          split at e
          · rename_i z hz
            cases e
            obtain ⟨zv, hz1, hz2, _⟩ := zeroA_run hz φ w
            refine Runs.still h (v' := .tuple #[zv, .bool false]) ?_ (.tup (a := #[zv, .bool false]) (.cons hz2 (.cons (.bool false) .nil)))
            simp only [Instr.typeAssert, Sem.run_bind, run_underlying hu w, Result.andThen_ok]
            cases d <;> first | exact absurd rfl (hnot _) | (simp [hb, hok, hz1]; done)
          · cases e
        · cases e
  · rename_i d hni hu
    have hnot : ∀ ms, d ≠ .interface ms := fun ms hh => hni ms hh
    cases hx
    rw [cnd_eq] at e
    split at e
    · rename_i hok
      split at e
      · rename_i z hz
        cases e
        obtain ⟨zv, hz1, hz2, _⟩ := zeroA_run hz φ w
        refine Runs.still h (v' := .tuple #[zv, .bool false]) ?_ (.tup (a := #[zv, .bool false]) (.cons hz2 (.cons (.bool false) .nil)))
        simp only [Instr.typeAssert, Sem.run_bind, run_underlying hu w, Result.andThen_ok]
        cases d <;> first | exact absurd rfl (hnot _) | (simp [hok, hz1]; done)
      · cases e
    · cases e
  · cases e
theorem bytesA_ints : ∀ {l : List AV} {s : List Nat} {vs : List Value}, bytesA l = some s → VRs φ l vs → ∃ ns : List Int, vs = ns.map (Value.int .u8) ∧ s = ns.map (fun n => n.toNat % 256)
  | [], _, _, e, h => by cases e; cases h; exact ⟨[], rfl, rfl⟩
  | x :: r, s, vs, e, h => by
    cases h with
    | cons a t =>
      unfold bytesA at e
      split at e
      · rename_i n r2 heq
        cases heq
      · rename_i n r2 heq
        cases heq
        split at e
        · rename_i l hl
          cases e
          cases a
          obtain ⟨ns, h1, h2⟩ := bytesA_ints hl t
          exact ⟨n :: ns, by rw [h1]; rfl, by rw [h2]; rfl⟩
        · cases e
      · cases e
theorem Stp.alike {ψ : Phi} {a1 a2 : AH} {w' : World} (h : Stp φ ah w ψ a1 w') (hg : ∀ j, a1.get j = a2.get j) (hn : a1.next = a2.next) : Stp φ ah w ψ a2 w' :=
  ⟨h.le, h.old, hn ▸ h.nx, ⟨fun b o c z hb => h.hr.obj b o c z ((hg b).trans hb), fun b b2 o o2 c z z2 hb hb2 => h.hr.inj b b2 o o2 c z z2 ((hg b).trans hb) ((hg b2).trans hb2), fun b c z e => hn ▸ h.hr.dom b c z e⟩, h.out, fun b o c z hb => h.src b o c z ((hg b).trans hb), h.env⟩
theorem Stp.freeze (h : HR φ ah w) {b c0 z0 : Nat} {l : List AV} (hl : cellsA ah b = some l) (hp : φ b = some (c0, z0)) {c' : Array Value} {tt : TypeId} {fr : Nat × Nat} (g1 : w.heap[c0]? = some (.cells c' tt fr)) (g2 : c'.size = z0) (g3 : l.length ≤ z0)
    (g4 : VRs φ l (c'.toList.take l.length)) (g5 : fr.1 = fr.2 ∨ z0 ≤ fr.1) (g6 : ∀ v ∈ c'.toList.take l.length, v.oneCell' = true) : Stp φ ah w φ ah (w.freeze ⟨c0, c'.size, none⟩ 1) := by
  have hw1 : (w.freeze ⟨c0, c'.size, none⟩ 1).heap.size = w.heap.size := by simp [World.freeze]
  have hw2 : ∀ j, j ≠ c0 → (w.freeze ⟨c0, c'.size, none⟩ 1).heap[j]? = w.heap[j]? := fun j hj => by
    simp only [World.freeze, if_neg (show ¬ (1 : Nat) = 0 by decide), Array.getElem?_modify]
    rw [if_neg (fun e => hj e.symm)]
  have hw3 : ∃ fr2 : Nat × Nat, (w.freeze ⟨c0, c'.size, none⟩ 1).heap[c0]? = some (.cells c' tt fr2) ∧ (fr2.1 = fr2.2 ∨ z0 ≤ fr2.1) := by
    obtain ⟨f1, f2⟩ := fr
    refine ⟨if f1 == f2 then (c'.size, c'.size + 1) else (min f1 c'.size, max f2 (c'.size + 1)), ?_, ?_⟩
    · simp only [World.freeze, if_neg (show ¬ (1 : Nat) = 0 by decide), Array.getElem?_modify, if_pos rfl, g1, Option.map_some]
      rfl
    · by_cases hf : f1 = f2
      · simp [hf]; omega
      · rcases g5 with g5 | g5
        · exact absurd g5 hf
        · have g5 : z0 ≤ f1 := g5
          simp [hf]; omega
  obtain ⟨fr2, hw3, hw4⟩ := hw3
  refine (Stp.turn h (cellsA_get hl) hp hw1 hw2 hw3 (.cells g2 g3 g4 hw4 g6)).alike (fun j => ?_) rfl
  rw [AH.get_set]
  split
  · rename_i hj; rw [hj, cellsA_get hl]
  · rfl
theorem pushed : ∀ (ns : List Int) (r : ByteArray), ((ns.foldl (fun r n => r.push (UInt8.ofNat n.toNat)) r).data.toList.map (·.toNat)) = r.data.toList.map (·.toNat) ++ ns.map (fun n => n.toNat % 256)
  | [], r => by simp
  | n :: ns, r => by
    rw [List.foldl_cons, pushed ns]
    have : (r.push (UInt8.ofNat n.toNat)).data.toList = r.data.toList ++ [UInt8.ofNat n.toNat] := by
      show (r.data.push _).toList = _
      rw [Array.toList_push]
    rw [this]
    simp
theorem strBytes_fresh {src dst el : TypeId} (hs : P.underlying src = some .string) (hd : P.underlying dst = some (.slice el)) (hu : P.underlying el = some (.int .u8)) (φ : Phi) (w : World) (s : ByteArray) :
    Fresh P φ w (convert src dst (.string s)) (fun b => .slice b 0 (s.data.toList.map (·.toNat)).length (.own 1)) ((s.data.toList.map (·.toNat)).map fun c : Nat => AV.int .u8 (c : Int)) := by
  have hge := grownCap_ge w s.size 0 el
  obtain ⟨cap, hcap⟩ : ∃ cap, cap = grownCap w s.size 0 el := ⟨_, rfl⟩
  rw [← hcap] at hge
  obtain ⟨C, hC⟩ : ∃ C : Array Value, C = s.data.map (fun b => Value.int .u8 b.toNat) ++ Array.replicate (cap - s.size) (.int .u8 0) := ⟨_, rfl⟩
  have hsz : s.data.size = s.size := rfl
  have hCs : C.size = cap := by rw [hC, Array.size_append, Array.size_map, Array.size_replicate]; omega
  have hCl : C.toList = byteCells s ++ List.replicate (cap - s.size) (.int .u8 0) := by rw [hC, Array.toList_append, Array.toList_map, Array.toList_replicate]; rfl
  have hlen : ((s.data.toList.map (·.toNat)).map fun c : Nat => AV.int .u8 (c : Int)).length = s.size := by rw [List.length_map, List.length_map, Array.length_toList]; rfl
  have hC1 : ∀ v ∈ C.toList, v.oneCell' = true := by
    intro v hv
    rw [hCl, List.mem_append] at hv
    rcases hv with hv | hv
    · obtain ⟨_, _, rfl⟩ := List.mem_map.1 hv; rfl
    · rw [List.eq_of_mem_replicate hv]; rfl
  have hget : (w.drew.alloc (.cells C el)).heap[w.drew.heap.size]? = some (.cells C el (0, 0)) := by
    show (w.drew.heap.push _)[w.drew.heap.size]? = _
    rw [Array.getElem?_push, if_pos rfl]
  have hsh : (w.drew.alloc (.cells C el)).shape? w.drew.heap.size = some (el, C.size) := by simp only [World.shape?, hget]
  have hrun : (convert src dst (.string s)).run P w = .ok (.slice (some ⟨w.drew.heap.size, 0, none⟩) s.size cap) ((w.drew.alloc (.cells C el)).freeze ⟨w.drew.heap.size, C.size, none⟩ 1) := by
    have hC2 : C = s.data.map (fun b => Value.int .u8 b.toNat) ++ Array.replicate (grownCap w s.size 0 el - s.size) (.int .u8 0) := by rw [hC, hcap]
    have hch : (choose (.appendCap s.size 0 el)).run P w = .ok (grownCap w s.size 0 el) w.drew := by
      rw [run_choose]
      rfl
    have hmk : (markStringish ⟨w.drew.heap.size, 0, none⟩).run P (w.drew.alloc (.cells C el)) = .ok () ((w.drew.alloc (.cells C el)).freeze ⟨w.drew.heap.size, C.size, none⟩ 1) := by
      simp only [markStringish, Sem.run_bind, run_shape, Result.andThen_ok, hsh, run_freeze]
    have hnr : (newRow el C).run P w.drew = .ok ⟨w.drew.heap.size, 0, none⟩ (w.drew.alloc (.cells C el)) := rfl
    simp only [convert, Sem.run_bind, run_underlying hs w, run_underlying hd w, Result.andThen_ok, run_underlying hu w, Conv.stringToBytes, hch, ← hC2, hnr, hmk, Sem.run_pure, hcap]
  refine ⟨_, _, cap, .cells C el (C.size, C.size + 1), hrun, ⟨?_, ⟨rfl, rfl, rfl⟩⟩, ?_, fun ψ b _ e => ?_⟩
  · simp only [World.freeze, if_neg (show ¬ (1 : Nat) = 0 by decide)]
    show (w.heap.push (.cells C el)).modify w.heap.size _ = _
    apply Array.ext_getElem?
    intro i
    rw [Array.getElem?_modify, Array.getElem?_push, Array.getElem?_push]
    by_cases hi : w.heap.size = i
    · subst hi; simp
    · rw [if_neg hi, if_neg (fun h => hi h.symm), if_neg (fun h => hi h.symm)]
  · refine .cells hCs (by rw [hlen]; exact hge) ?_ (.inr (by rw [hCs]; exact Nat.le_refl _)) (fun v hv => hC1 v (List.mem_of_mem_take hv))
    have : C.toList.take s.size = byteCells s := by
      rw [hCl, List.take_append_of_le_length (by rw [byteCells_length]; exact Nat.le_refl _), List.take_of_length_le (by rw [byteCells_length]; exact Nat.le_refl _)]
    rw [hlen, this]
    exact bytes_VRs _ s
  · rw [List.length_map, Array.length_toList]
    exact .slice 0 s.size cap 1 e hge (by omega)
theorem conv_runs (h : HR φ ah w) {src dst : TypeId} {x y : AV} {x' : Value} {ah' : AH} (hx : VR φ x x') (e : convA P.underlying P.info? ah src dst x = some (y, ah')) : Runs P φ ah w (convert src dst x') y ah' := by
  unfold convA at e
  split at e
  · rename_i sd k kk n hs hd
    cases e
    cases hx
    refine Runs.still h (v' := .int k (k.wrap n)) ?_ (.int _ _)
    simp only [convert, Sem.run_bind, run_underlying hs w, run_underlying hd w, Result.andThen_ok]
    rfl
  · rename_i sd s hs hd
    cases e
    cases hx with
    | str s =>
      refine Runs.still h (v' := .string s) ?_ (.str s)
      simp only [convert, Sem.run_bind, run_underlying hs w, run_underlying hd w, Result.andThen_ok]
      cases sd <;> rfl
  · rename_i el st hs hd
    split at e
    · rename_i hu
      cases e
      cases hx with
      | str s => exact (strBytes_fresh (P := P) hs hd hu φ w s).runs h
    · cases e
  · rename_i e0 el b o n rm hs hd
    split at e
    · rename_i hu
      split at e
      · rename_i l hl
        rw [cnd_eq] at e
        split at e
        · rename_i hsd
          have hsd := Nat.eq_of_beq_eq_true hsd
          subst hsd
          cases e
          have go : ∀ (c0 z0 cap : Nat), φ b = some (c0, z0) → VR φ (.slice b o n rm) (.slice (some ⟨c0, o, none⟩) n cap) → Runs P φ ah w (convert src src (.slice (some ⟨c0, o, none⟩) n cap)) (.slice b o n rm) ah := by
            intro c0 z0 cap hp hv
            obtain ⟨c', tt, fr, g1, g2, g3, g4, g5, g6⟩ := h.row hl hp
            have hsh : w.shape? c0 = some (tt, c'.size) := by simp [World.shape?, g1]
            have hrun : (convert src src (.slice (some ⟨c0, o, none⟩) n cap)).run P w = .ok (.slice (some ⟨c0, o, none⟩) n cap) (w.freeze ⟨c0, c'.size, none⟩ 1) := by
              have he : e0 = el := by rw [hs] at hd; cases hd; rfl
              subst he
              simp only [convert, Sem.run_bind, run_underlying hs w, Result.andThen_ok]
              simp [run_underlying hu w, markStringish, hsh]
            refine ⟨φ, _, _, hrun, ?_, hv⟩
            exact Stp.freeze h hl hp g1 g2 g3 g4 g5 g6
          cases hx with
          | slice o n0 cap sz2 hp hnn hz => exact go _ _ _ hp (.slice o n cap sz2 hp hnn hz)
          | sliceK o n0 cap hp => exact go _ _ _ hp (.sliceK o n cap hp)
        · cases e
      · cases e
    · cases e
  · rename_i el hs hd hno
    split at e
    · rename_i hu
      have hconv : ∀ (a : Option Addr) (l c : Nat), (convert src dst (.slice a l c)).run P w = (Conv.bytesToString (.slice a l c)).run P w := by
        intro a l c
        simp only [convert, Sem.run_bind, run_underlying hs w, run_underlying hd w, Result.andThen_ok]
        cases a <;> simp [run_underlying hu w]
      split at e
      · cases e; cases hx
        exact Runs.still h (v' := .string .empty) (by rw [hconv]; rfl) (.str .empty)
      · cases e
        cases hx with
        | empty a cap =>
          exact Runs.still h (v' := .string .empty) (by rw [hconv]; exact run_bytesToString w a 0 cap [] rfl) (.str .empty)
      · rename_i b o n rm
        split at e
        · rename_i l hl
          split at e
          · rename_i st hst
            cases e
            unfold segA at hl
            split at hl
            · rename_i c hc
              have go : ∀ (c0 z0 cap : Nat), φ b = some (c0, z0) → Runs P φ ah w (convert src dst (.slice (some ⟨c0, o, none⟩) n cap)) (.str st) ah := by
                intro c0 z0 cap hp
                obtain ⟨vs, q1, q2, q3, q4, _⟩ := h.seg hc hp hl
                obtain ⟨ns, r1, r2⟩ := bytesA_ints hst q2
                have hload : (loadCells ⟨c0, o, none⟩ n).run P w = .ok (ns.map (Value.int .u8)).toArray w := by
                  rw [← r1, ← q1]
                  exact run_loadCells_list (P := P) w ⟨c0, o, none⟩ vs (fun j v hv => by rw [Addr.add_mid]; exact q3 j v hv)
                have hrun := run_bytesToString (P := P) w ⟨c0, o, none⟩ n cap ns hload
                refine Runs.still h (by rw [hconv]; exact hrun) ?_
                have hp2 := pushed ns ByteArray.empty
                rw [r2, show ns.map (fun n => n.toNat % 256) = (ns.foldl (fun r n => r.push (UInt8.ofNat n.toNat)) ByteArray.empty).data.toList.map (·.toNat) by rw [hp2]; rfl]
                exact .str _
              cases hx with
              | slice o n0 cap sz2 hp hnn hz => exact go _ _ _ hp
              | sliceK o n0 cap hp => exact go _ _ _ hp
            · cases hl
          · cases e
        · cases e
      · cases e
    · cases e
  · cases e
end
end Go.Proofs.YtpmlofbpiajkbaaGreatDoor.M2
