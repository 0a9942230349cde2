/- A map of ints whose entries are as a list of pairs says: an assignment to a key in its two steps (the entry first, the value then), a lookup. No function of the program in sight. -/
import Derived.Test.YtmonfmmcgfmeeaaGreatDoorLfMath
import Derived.MapKept
import Derived.WideKeyEntry
namespace Go.Proofs.YtmonfmmcgfmeeaaGreatDoor.Mp
open Go.MapKept Go.ChangeMaps Go.Proofs.YtmonfmmcgfmeeaaGreatDoor.Lf
set_option linter.unusedVariables false
set_option linter.unusedSimpArgs false

structure Ents {α : Type} (Rel : Nat → α → Value → Prop) (es : Array MapEntry) (clock : Nat) (last : List (Nat × α)) : Prop where
  keys : (last.map (·.1)).Nodup
  len : es.toList.length = last.length
  at_ : ∀ (i : Nat) (e : MapEntry) (p : Nat × α), es.toList[i]? = some e → last[i]? = some p → e.key = .int .i64 (p.1 : Int) ∧ Rel p.1 p.2 e.val
  born : ∀ e ∈ es.toList, e.born < clock
  nd : (es.toList.map (·.born)).Nodup

theorem Ents.imp {α : Type} {R R' : Nat → α → Value → Prop} {es : Array MapEntry} {clock : Nat} {last : List (Nat × α)} (h : Ents R es clock last) (hR : ∀ k x v, R k x v → R' k x v) : Ents R' es clock last :=
  ⟨h.keys, h.len, fun i e p he hp => ⟨(h.at_ i e p he hp).1, hR _ _ _ (h.at_ i e p he hp).2⟩, h.born, h.nd⟩

theorem ents_empty {α : Type} (Rel : Nat → α → Value → Prop) (clock : Nat) : Ents Rel #[] clock [] := ⟨by simp, rfl, by simp, by simp, by simp⟩

theorem putK_at {α : Type} {k : Nat} {u v : α} : ∀ {l : List (Nat × α)} {j : Nat}, (l.map (·.1)).Nodup → l[j]? = some (k, u) → putK k v l = l.set j (k, v)
  | [], j, _, h => by simp at h
  | (i, x) :: r, 0, hn, h => by
    simp only [List.getElem?_cons_zero, Option.some.injEq, Prod.mk.injEq] at h
    simp [putK, h.1]
  | (i, x) :: r, j + 1, hn, h => by
    simp only [List.getElem?_cons_succ] at h
    simp only [List.map_cons, List.nodup_cons] at hn
    have hne : i ≠ k := fun e => hn.1 (List.mem_map.2 ⟨_, List.mem_of_getElem? h, e.symm⟩)
    simp [putK, hne, putK_at hn.2 h]
theorem putK_new {α : Type} {k : Nat} {v : α} : ∀ {l : List (Nat × α)}, k ∉ l.map (·.1) → putK k v l = l ++ [(k, v)]
  | [], _ => rfl
  | (i, x) :: r, h => by
    simp only [List.map_cons, List.mem_cons, not_or] at h
    have hne : ¬ i = k := fun e => h.1 e.symm
    simp [putK, hne, putK_new h.2]
theorem getK_at {α : Type} {k : Nat} {u : α} : ∀ {l : List (Nat × α)} {j : Nat}, (l.map (·.1)).Nodup → l[j]? = some (k, u) → getK k l = some u
  | [], j, _, h => by simp at h
  | (i, x) :: r, 0, hn, h => by
    simp only [List.getElem?_cons_zero, Option.some.injEq, Prod.mk.injEq] at h
    simp [getK, h.1, h.2]
  | (i, x) :: r, j + 1, hn, h => by
    simp only [List.getElem?_cons_succ] at h
    simp only [List.map_cons, List.nodup_cons] at hn
    have hne : i ≠ k := fun e => hn.1 (List.mem_map.2 ⟨_, List.mem_of_getElem? h, e.symm⟩)
    simp [getK, hne, getK_at hn.2 h]

section
variable {α : Type} {P : Program} {w : World} {t kt et : TypeId} {b : Nat} {es : Array MapEntry} {clock : Nat} {Rel : Nat → α → Value → Prop} {last : List (Nat × α)}

theorem Ents.isKey (E : Ents Rel es clock last) : ∀ x ∈ es.toList, IsKey (.int .i64) x.key := by
  intro x hx
  obtain ⟨i, hi⟩ := List.getElem?_of_mem hx
  have hlt := (List.getElem?_eq_some_iff.1 hi).1
  rw [E.len] at hlt
  obtain ⟨h, _⟩ := E.at_ i x _ hi (List.getElem?_eq_getElem hlt)
  rw [h]; rfl

/-- Where a key is among the entries, or that it is at none. -/
theorem Ents.find (E : Ents Rel es clock last) (k : Nat) :
    (Instr.findNow (.int .i64) (.int .i64 (k : Int)) es.toList 0 = some none ∧ k ∉ last.map (·.1)) ∨
      ∃ j e u, Instr.findNow (.int .i64) (.int .i64 (k : Int)) es.toList 0 = some (some (j, e.val)) ∧ es.toList[j]? = some e ∧ e.key = .int .i64 (k : Int) ∧ last[j]? = some (k, u) ∧ Rel k u e.val := by
  rcases findNow_spec (d := .int .i64) (k := .int .i64 (k : Int)) rfl es.toList 0 E.isKey with ⟨h1, h2⟩ | ⟨j, e, h1, h2, h3⟩
  · refine .inl ⟨h1, fun hm => ?_⟩
    obtain ⟨p, hp, rfl⟩ := List.mem_map.1 hm
    obtain ⟨i, hi⟩ := List.getElem?_of_mem hp
    have hlt := (List.getElem?_eq_some_iff.1 hi).1
    rw [← E.len] at hlt
    have he := List.getElem?_eq_getElem hlt
    exact h2 _ (List.getElem_mem hlt) (E.at_ i _ _ he hi).1
  · right
    have hlt := (List.getElem?_eq_some_iff.1 h2).1
    rw [E.len] at hlt
    have hp := List.getElem?_eq_getElem hlt
    obtain ⟨q1, q2⟩ := E.at_ j e _ h2 hp
    rw [h3] at q1
    injection q1 with _ q1
    have q1' : (last[j]).1 = k := by omega
    refine ⟨j, e, (last[j]).2, by rw [h1, Nat.zero_add], h2, h3, by rw [hp, ← q1'], by rw [q1'] at q2; exact q2⟩

/-- A lookup of a key that is there. -/
theorem run_lookup_at (ht : P.underlying t = some (.map kt et)) (hk : P.underlying kt = some (.int .i64)) (hb : w.heap[b]? = some (.map es clock)) (E : Ents Rel es clock last) {k : Nat} {u : α} (h : (k, u) ∈ last) :
    ∃ v, (Instr.lookup t (.map (some b)) (.int .i64 (k : Int)) false).run P w = .ok v w ∧ Rel k u v := by
  obtain ⟨i, hi⟩ := List.getElem?_of_mem h
  rcases E.find k with ⟨_, h2⟩ | ⟨j, e, u', h1, h2, h3, h4, h5⟩
  · exact absurd (List.mem_map.2 ⟨_, h, rfl⟩) h2
  · have e1 := getK_at E.keys hi
    have e2 := getK_at E.keys h4
    rw [e1] at e2
    injection e2 with e2
    subst e2
    refine ⟨e.val, ?_, h5⟩
    simp [Instr.lookup, run_underlying ht, MapKept.run_getObj_map hb, run_checkKey hk (k := .int .i64 (k : Int)) rfl, run_findKey hk h1, Result.andThen]

/-- An assignment to a key: the entry first, the value then. -/
theorem entry_then (ht : P.underlying t = some (.map kt et)) (hk : P.underlying kt = some (.int .i64)) {z : Value} (hz : ∀ u : World, (zeroValue et).run P u = .ok z u) (hb : w.heap[b]? = some (.map es clock)) (E : Ents Rel es clock last) (k : Nat) :
    ∃ (v0 : Value) (st : Nat) (es1 : Array MapEntry) (clock1 : Nat), (Instr.mapEntry t (.map (some b)) (.int .i64 (k : Int))).run P w = .ok (.tuple #[v0, .int .i64 (st : Int)]) (setBlock w b (.map es1 clock1)) ∧
      ∀ (w2 : World) (val : Value), w2.heap[b]? = some (.map es1 clock1) → ∃ es' clock', (Instr.entryStore t (.map (some b)) (.int .i64 (st : Int)) val).run P w2 = .ok () (setBlock w2 b (.map es' clock')) ∧
        ∀ (R' : Nat → α → Value → Prop) (c : α), Ents R' es clock last → R' k c val → Ents R' es' clock' (putK k c last) := by
  have hkey : IsKey (.int .i64) (.int .i64 (k : Int)) := rfl
  rcases E.find k with ⟨h1, h2⟩ | ⟨j, e0, u, h1, h2, h3, h4, _⟩
  · refine ⟨z, clock, es.push ⟨.int .i64 k, z, clock⟩, clock + 1, ?_, fun w2 val hw2 => ⟨es.push ⟨.int .i64 k, val, clock⟩, clock + 1, ?_, fun R' c ER hc => ?_⟩⟩
    · simp [goInt, Instr.mapEntry, run_underlying ht, MapKept.run_getObj_map hb, run_checkKey hk hkey, run_findKey hk h1, hz, MapKept.run_setObj_map _ hb, Result.andThen, setBlock]
    · have hidx : (es.push ⟨.int .i64 k, z, clock⟩).findIdx? (fun e => ((e.born : Nat) : Int) == ((clock : Nat) : Int)) = some es.size := by
        rw [WideElems.findIdx_arr]
        have := WideElems.findIdx_born (l := (es.push ⟨.int .i64 k, z, clock⟩).toList) (j := es.size) (e0 := ⟨.int .i64 k, z, clock⟩) (by
          simp only [Array.toList_push, List.map_append, List.map_cons, List.map_nil]
          refine List.nodup_append.2 ⟨E.nd, by simp, fun a ha c hc e1 => ?_⟩
          simp only [List.mem_singleton] at hc
          obtain ⟨x, hx, rfl⟩ := List.mem_map.1 ha
          have := E.born x hx
          omega) (by simp)
        exact this
      have hmod : (es.push ⟨.int .i64 k, z, clock⟩).modify es.size (fun e => { e with val := val }) = es.push ⟨.int .i64 k, val, clock⟩ := by
        apply Array.ext'
        rw [Array.toList_modify, Array.toList_push, Array.toList_push, ← Array.length_toList, WideElems.modify_last]
      simp [Instr.entryStore, MapKept.run_getObj_map hw2, asInt, asIntOf, goInt, hidx, hmod, MapKept.run_setObj_map _ hw2, Result.andThen, setBlock]
    · rw [putK_new h2]
      refine ⟨?_, by simp [← ER.len], fun i e p he hp => ?_, fun e he => ?_, ?_⟩
      · rw [List.map_append]
        exact List.nodup_append.2 ⟨ER.keys, by simp, by rintro a ha b hb; simp at hb; subst hb; rintro rfl; exact h2 ha⟩
      · rw [Array.toList_push] at he
        rcases Nat.lt_or_ge i last.length with hi | hi
        · rw [List.getElem?_append_left (by rw [ER.len]; exact hi)] at he
          rw [List.getElem?_append_left hi] at hp
          exact ER.at_ i e p he hp
        · have hi' : i = last.length := by have := (List.getElem?_eq_some_iff.1 hp).1; simp at this; omega
          subst hi'
          rw [List.getElem?_append_right (by rw [ER.len]; exact Nat.le_refl _), ER.len, Nat.sub_self] at he
          simp at he hp
          subst he hp
          exact ⟨rfl, hc⟩
      · rw [Array.toList_push] at he
        rcases List.mem_append.1 he with h | h
        · have := ER.born e h; omega
        · simp at h; subst h; simp
      · rw [Array.toList_push, List.map_append]
        refine List.nodup_append.2 ⟨ER.nd, by simp, fun a ha c hc e1 => ?_⟩
        simp only [List.map_cons, List.map_nil, List.mem_singleton] at hc
        obtain ⟨x, hx, rfl⟩ := List.mem_map.1 ha
        have := ER.born x hx
        omega
  · have hj : es[j]? = some e0 := by simpa using h2
    have hsame : es.modify j (fun e => { e with key := .int .i64 (k : Int) }) = es := by
      apply Array.ext'
      rw [Array.toList_modify, ChangeMaps.modify_eq_set _ _ _ _ h2]
      have : ({ e0 with key := .int .i64 (k : Int) } : MapEntry) = e0 := by rw [← h3]
      rw [this]
      exact WideElems.set_self _ _ _ h2
    refine ⟨e0.val, e0.born, es, clock, ?_, fun w2 val hw2 => ⟨es.modify j (fun e' => { e' with val := val }), clock, ?_, fun R' c ER hc => ?_⟩⟩
    · simp [goInt, Instr.mapEntry, run_underlying ht, MapKept.run_getObj_map hb, run_checkKey hk hkey, run_findKey hk h1, hj, h3, run_keyThatStays hkey, hsame, MapKept.run_setObj_map _ hb, Result.andThen, setBlock]
    · have hidx : es.findIdx? (fun e => ((e.born : Nat) : Int) == ((e0.born : Nat) : Int)) = some j := by
        rw [WideElems.findIdx_arr]
        exact WideElems.findIdx_born E.nd h2
      simp [Instr.entryStore, MapKept.run_getObj_map hw2, asInt, asIntOf, goInt, hidx, MapKept.run_setObj_map _ hw2, Result.andThen, setBlock]
    · rw [putK_at ER.keys h4]
      have hl : (es.modify j (fun e' => { e' with val := val })).toList = es.toList.set j { e0 with val := val } := by
        rw [Array.toList_modify, ChangeMaps.modify_eq_set _ _ _ _ h2]
      have hmap : (es.toList.set j { e0 with val := val }).map (·.born) = es.toList.map (·.born) := by
        rw [List.map_set]
        exact WideElems.set_self _ _ _ (by simp [h2])
      have hlast : (last.set j (k, c)).map (·.1) = last.map (·.1) := by
        rw [List.map_set]
        exact WideElems.set_self _ _ _ (by simp [h4])
      refine ⟨by rw [hlast]; exact ER.keys, by rw [hl]; simp [ER.len], fun i e p he hp => ?_, fun e he => ?_, by rw [hl, hmap]; exact ER.nd⟩
      · rw [hl] at he
        by_cases hij : j = i
        · subst hij
          have h5 := (List.getElem?_eq_some_iff.1 h2).1
          have h6 := (List.getElem?_eq_some_iff.1 h4).1
          rw [List.getElem?_set, if_pos rfl, if_pos h5] at he
          rw [List.getElem?_set, if_pos rfl, if_pos h6] at hp
          injection he with he
          injection hp with hp
          subst he hp
          exact ⟨h3, hc⟩
        · rw [List.getElem?_set, if_neg hij] at he hp
          exact ER.at_ i e p he hp
      · rw [hl] at he
        have : e.born ∈ (es.toList.set j { e0 with val := val }).map (·.born) := List.mem_map.2 ⟨_, he, rfl⟩
        rw [hmap] at this
        obtain ⟨x, hx, hxe⟩ := List.mem_map.1 this
        rw [← hxe]
        exact ER.born x hx
end
end Go.Proofs.YtmonfmmcgfmeeaaGreatDoor.Mp
