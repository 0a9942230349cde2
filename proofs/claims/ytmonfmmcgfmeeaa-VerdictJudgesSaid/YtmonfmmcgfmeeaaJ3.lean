/- What the law's own helpers and the reference come to, as plain functions on lists. -/
import Derived.Test.YtmonfmmcgfmeeaaJ2
namespace Go.Proofs.Ytmonfmmcgfmeeaa.PVerdictJudges
open Go.RowKit Go.Proofs.YtmonfmmcgfmeeaaW.PrintWords Go.Proofs.YtmonfmmcgfmeeaaW.PrintLast Go.Proofs.YtmonfmmcgfmeeaaW.PrintMore

def conv (c : S39) : S40 := ⟨c.f0, c.f1, c.f2⟩

theorem wrap_nat {i n : Nat} (h : i < n) (hn : n ≤ 1000000) : wrap64 ((i : Int) + 1) = ((i + 1 : Nat) : Int) := by
  unfold wrap64
  omega

theorem light_ends (l : List S39) (hn : l.length ≤ 1000000) (d : Nat) : ∀ (k i : Nat), i ≤ l.length → l.length - i = d → d < k → ∃ b, oubliettelaw40_Light.l0 k l i = some b := by
  induction d with
  | zero =>
    intro k i h0 hd hk
    obtain ⟨k, rfl⟩ : ∃ m, k = m + 1 := ⟨k - 1, by omega⟩
    exact ⟨true, by simp only [oubliettelaw40_Light.l0]; rw [if_neg (by omega)]⟩
  | succ d ih =>
    intro k i h0 hd hk
    obtain ⟨k, rfl⟩ : ∃ m, k = m + 1 := ⟨k - 1, by omega⟩
    simp only [oubliettelaw40_Light.l0]
    rw [if_pos (by omega), if_pos (by omega)]
    split
    · exact ⟨_, rfl⟩
    · split
      · exact ⟨_, rfl⟩
      · rw [wrap_nat (n := l.length) (by omega) hn]
        exact ih k (i + 1) (by omega) (by omega) (by omega)

theorem light_f (l : List S39) : ∃ k b, oubliettelaw40_Light.f k l = some b ∧ (b = true → l.length ≤ 30) := by
  by_cases h : (l.length : Int) > 30
  · exact ⟨0, false, by unfold oubliettelaw40_Light.f; rw [if_pos h], by simp⟩
  · obtain ⟨b, hb⟩ := light_ends l (by omega) (l.length - 0) (l.length + 1) 0 (by omega) rfl (by omega)
    exact ⟨_, b, by unfold oubliettelaw40_Light.f; rw [if_neg h]; exact hb, fun _ => by omega⟩

theorem of_ends (l : List S39) (hn : l.length ≤ 1000000) (d : Nat) : ∀ (k i : Nat) , i ≤ l.length → l.length - i = d → d < k → oubliettelaw40_Of.l0 k l ((l.take i).map conv) i = some (l.map conv) := by
  induction d with
  | zero =>
    intro k i h0 hd hk
    obtain ⟨k, rfl⟩ : ∃ m, k = m + 1 := ⟨k - 1, by omega⟩
    simp only [oubliettelaw40_Of.l0]; rw [if_neg (by omega), List.take_of_length_le (by omega)]
  | succ d ih =>
    intro k i h0 hd hk
    obtain ⟨k, rfl⟩ : ∃ m, k = m + 1 := ⟨k - 1, by omega⟩
    have hi : i < l.length := by omega
    simp only [oubliettelaw40_Of.l0]
    rw [if_pos (by omega), if_pos (by omega), if_pos (by simp; omega), wrap_nat hi hn, ← ih k (i + 1) (by omega) (by omega) (by omega)]
    congr 1
    rw [List.take_succ_eq_append_getElem hi, List.map_append]
    simp [conv, rd_T39, List.getD_eq_getElem?_getD, List.getElem?_eq_getElem hi]

theorem of_f (l : List S39) (hn : l.length ≤ 1000000) : oubliettelaw40_Of.f (l.length + 1) l = some (l.map conv) :=
  of_ends l hn (l.length - 0) (l.length + 1) 0 (by omega) rfl (by omega)

theorem say_ends (l : List S39) (g : ByteArray) (e : Int) (hn : l.length ≤ 1000000) (d : Nat) : ∀ (k i : Nat) , i ≤ l.length → l.length - i = d → d < k → oublietteref40_Say.l0 k l g e i = some (sayOf g e ((l.drop i).map conv)) := by
  induction d with
  | zero =>
    intro k i h0 hd hk
    obtain ⟨k, rfl⟩ : ∃ m, k = m + 1 := ⟨k - 1, by omega⟩
    simp only [oublietteref40_Say.l0]; rw [if_neg (by omega), List.drop_of_length_le (by omega)]; rfl
  | succ d ih =>
    intro k i h0 hd hk
    obtain ⟨k, rfl⟩ : ∃ m, k = m + 1 := ⟨k - 1, by omega⟩
    have hi : i < l.length := by omega
    have hr : rd_T39 l i = l[i] := by simp [rd_T39, List.getD_eq_getElem?_getD, List.getElem?_eq_getElem hi]
    simp only [oublietteref40_Say.l0]
    rw [if_pos (by omega), if_pos (by omega), wrap_nat hi hn, ih k (i + 1) (by omega) (by omega) (by omega), List.drop_eq_getElem_cons hi, hr, List.map_cons]
    generalize (l.drop (i + 1)).map conv = R
    by_cases h1 : l[i].f0.toList = g.toList
    · rw [if_pos h1]
      by_cases h2 : l[i].f1 = e
      · rw [if_pos h2]
        simp [sayOf, isAt, conv, h1, h2]
      · rw [if_neg h2]
        simp [sayOf, isAt, conv, h1, h2]
    · rw [if_neg h1]
      simp [sayOf, isAt, conv, h1]

theorem rsay_f (l : List S39) (g : ByteArray) (e : Int) (hn : l.length ≤ 1000000) (k : Nat) (hk : l.length < k) : oublietteref40_Say.f k l g e = some (sayOf g e (l.map conv)) := by
  have := say_ends l g e hn (l.length - 0) k 0 (by omega) rfl (by omega)
  rw [List.drop_zero] at this
  exact this

theorem judge_ends (l log : List S39) (hn : l.length ≤ 1000000) (hm : log.length ≤ 1000000) (d : Nat) : ∀ (k i : Nat) , i ≤ l.length → l.length - i = d → 2 * d + log.length + 1 < k → oublietteref40_Judge.l0 k l log (judgeOf (log.map conv) ((l.take i).map conv)) i = some (judgeOf (log.map conv) (l.map conv)) := by
  induction d with
  | zero =>
    intro k i h0 hd hk
    obtain ⟨k, rfl⟩ : ∃ m, k = m + 1 := ⟨k - 1, by omega⟩
    simp only [oublietteref40_Judge.l0]; rw [if_neg (by omega), List.take_of_length_le (by omega)]
  | succ d ih =>
    intro k i h0 hd hk
    obtain ⟨k, rfl⟩ : ∃ m, k = m + 2 := ⟨k - 2, by omega⟩
    have hi : i < l.length := by omega
    have hr : rd_T39 l i = l[i] := by simp [rd_T39, List.getD_eq_getElem?_getD, List.getElem?_eq_getElem hi]
    have hs : judgeOf (log.map conv) ((l.take (i + 1)).map conv) = judgeOf (log.map conv) ((l.take i).map conv) ++ [opOf (log.map conv) (conv l[i])] := by
      rw [List.take_succ_eq_append_getElem hi, List.map_append]; unfold judgeOf; rw [List.map_append]; rfl
    have hlen : (judgeOf (log.map conv) ((l.take i).map conv)).length < 1466015503701 := by unfold judgeOf; rw [List.length_map, List.length_map, List.length_take]; omega
    rw [← ih k (i + 1) (by omega) (by omega) (by omega), hs]
    simp only [oublietteref40_Judge.l0]
    rw [if_pos (by omega), if_pos (by omega), rsay_f log _ _ hm _ (by omega), hr]
    obtain ⟨sr, hsr⟩ : ∃ s, s = sayOf l[i].f0 l[i].f1 (log.map conv) := ⟨_, rfl⟩
    rw [← hsr]
    have hop : opOf (log.map conv) (conv l[i]) = ⟨4, l[i].f0, l[i].f2, l[i].f1, 0, 0, if sr.2 = true then (if (sr.1.toList == l[i].f2.toList) = true then 1 else 2) else 3, []⟩ := by
      rw [hsr]; rfl
    rw [hop]
    generalize judgeOf (log.map conv) ((l.take i).map conv) = J at hlen ⊢
    simp only [Option.bind_some, oublietteref40_Judge.j1]
    rw [wrap_nat hi hn]
    obtain ⟨s1, s2⟩ := sr
    cases s2
    · simp [hlen]
    · cases hq : (s1.toList == l[i].f2.toList)
      · simp [hlen]
      · simp [hlen]

theorem rjudge_f (l log : List S39) (hn : l.length ≤ 1000000) (hm : log.length ≤ 1000000) : ∃ k, oublietteref40_Judge.f k l log = some (judgeOf (log.map conv) (l.map conv)) :=
  ⟨_, judge_ends l log hn hm (l.length - 0) (2 * l.length + log.length + 2) 0 (by omega) rfl (by omega)⟩

theorem same_f (o : S33) (h : o.f7 = []) : oublietteref39_Same.f 1 o.f0 o.f1 o.f2 o.f3 o.f4 o.f5 o.f6 o.f7 o.f0 o.f1 o.f2 o.f3 o.f4 o.f5 o.f6 o.f7 = some true := by
  rw [h]
  simp [oublietteref39_Same.f, oublietteref01_Same.f, oublietteref01_Same.l0]
end Go.Proofs.Ytmonfmmcgfmeeaa.PVerdictJudges
