/- For every geometry and every slot TreeNils returns true, and the input reads as it did; the tables are tied to the program's text: no condition of its own. -/
import Derived.Test.YtpmlofbpiajkbaaGreatDoorRows
import Derived.Test.YtpmlofbpiajkbaaGreatDoorCards
import Derived.Test.YtpmlofbpiajkbaaGreatDoorTie
import Derived.Test.YtpmlofbpiajkbaaGreatDoorOw
import Derived.Test.YtpmlofbpiajkbaaGreatDoorJf
import Derived.Lib.LaidIn
import Derived.Lib.LaidU8
import Derived.Deep.DeepHandedRow
import Derived.Deep.DeepWitnessRowRef
import Derived.WalkKit
import Derived.ProofKit
import Derived.OpenShut
import Derived.ShutString
import Derived.ChangeOld
import Derived.Below
import Derived.SizedLaws
import Derived.SevenTiedAt
namespace Go.Proofs.YtpmlofbpiajkbaaGreatDoor.treeNils
open Go.ChangeShapes Go.WideShapes Go.ChangeAt Go.RowKit Go.Shelf
set_option linter.unusedVariables false
theorem own : ownKnob Tryz.prog.godebug = none := by kernel_rfl
theorem laidOut : laidOutB Tryz.prog = true := by kernel_rfl
theorem cells3 : Tryz.prog.cellsOf 3 = 1 := by kernel_rfl
theorem cells23 : Tryz.prog.cellsOf 23 = 3 := by kernel_rfl

def numsOf : DataW Unit → List Value
  | .agg l => l.map fun
    | .lit (.int k n) => .int k n
    | _ => undef
  | _ => []
/-- THE WITNESS: the settled world, the six tables holding what the text lays. -/
noncomputable def laidWorld (os : Os) : World :=
  let w0 := World.holding Tryz.prog os ⟨#[], #[], []⟩
  let put (h : Array Obj) (g : Nat) (cs : Array Value) : Array Obj := h.modify g fun
    | .cells _ t frozen => .cells cs t frozen
    | o => o
  let h1 := put w0.heap 0 (Lib.firstTab.map fun z => Value.int .u8 z).toArray
  let h2 := put h1 1 ((List.range 16).flatMap fun i => [Value.int .u8 (Lib.accLo i), Value.int .u8 (Lib.accHi i)]).toArray
  let h3 := put h2 3 (numsOf Rows.laid_oubliette_sha_k).toArray
  let h4 := put h3 4 (numsOf Rows.laid_internal_strconv_uint64pow10).toArray
  let h5 := put h4 5 (numsOf Rows.laid_math_bits_deBruijn32tab).toArray
  let h6 := put h5 6 (numsOf Rows.laid_math_bits_deBruijn64tab).toArray
  { w0 with heap := h6 }
theorem laid_met (os : Os) (args : Array Value) : laidMet Tryz.prog Rows.treeNilsRow.laid ((laidWorld os).forCall (fun _ _ => 0) ⟨#[], args, []⟩).memory :=
  (LaidIn.of_run (l := [("math/bits.deBruijn32tab", Rows.laid_math_bits_deBruijn32tab), ("math/bits.deBruijn64tab", Rows.laid_math_bits_deBruijn64tab), ("internal/strconv.uint64pow10", Rows.laid_internal_strconv_uint64pow10), ("unicode/utf8.acceptRanges", Rows.laid_unicode_utf8_acceptRanges), ("oubliette/sha.k", Rows.laid_oubliette_sha_k), ("unicode/utf8.first", Rows.laid_unicode_utf8_first)]) [5, 6, 4, 1, 3, 0] 8 (by kernel_rfl) (by kernel_rfl) (by kernel_rfl) (by kernel_rfl)).met

theorem witness_row (os : Os) {H : Type} (enc : TypeId × Value → H) :
    (OpenSpec.ofChange Rows.treeNilsSpec).preRow enc Tryz.prog Tryz.f3 Rows.treeNilsRow.domain false Rows.treeNilsRow.laid ((laidWorld os).forCall (fun _ _ => 0) ⟨#[], #[.agg #[.int .i64 0, .int .i64 0, .int .i64 0], .int .i64 0], []⟩).memory #[.agg #[.int .i64 0, .int .i64 0, .int .i64 0], .int .i64 0] := by
  have hw : (DataW.whole enc Tryz.prog ((laidWorld os).forCall (fun _ _ => 0) ⟨#[], #[.agg #[.int .i64 0, .int .i64 0, .int .i64 0], .int .i64 0], []⟩).memory Tryz.f3.params.toList (OpenSpec.ofChange Rows.treeNilsSpec).vars false #[Value.agg #[.int .i64 0, .int .i64 0, .int .i64 0], .int .i64 0].toList 8).map (fun x => (x.1, x.2.1)) =
      some ([.agg [.lit (.int .i64 0), .lit (.int .i64 0), .lit (.int .i64 0)], .lit (.int .i64 0)], []) := by kernel_rfl
  obtain ⟨⟨x1, x2, x3⟩, hx, hx1⟩ := Option.map_eq_some_iff.1 hw
  simp only [Prod.mk.injEq] at hx1
  obtain ⟨rfl, rfl⟩ := hx1
  exact OpenSpec.preRow_of_cond 8 hx (by kernel_rfl) (fun k hk => by cases hk) (by kernel_rfl) (laid_met os _)
theorem take_one {cs : List Value} {i : Nat} {v : Value} (h : (cs.drop i).take 1 = [v]) : cs[i]? = some v := by
  have := congrArg (fun l => l[0]?) h
  simpa [List.getElem?_take, List.getElem?_drop] using this
set_option maxRecDepth 100000 in
/-- The geometry, opened: three numbers. -/
theorem open_geom {H : Type} {enc : TypeId × Value → H} {w : World} {base : Nat} {spare : Nat → Bool} {held : Bool} {r : Reach} {b0 : Nat} {v : Value} {d : DataW H} {ps : List MemPlace} (ho : Value.okWide Tryz.prog w r b0 23 v) (h : DataW.Trod enc Tryz.prog w base spare held 23 v d ps) :
    ∃ a b c : Int, v = .agg #[.int .i64 a, .int .i64 b, .int .i64 c] ∧ (Lit.int .i64 a).wf = true ∧ (Lit.int .i64 b).wf = true ∧ (Lit.int .i64 c).wf = true := by
  obtain ⟨cs, rfl, hs⟩ := okWide_struct Tryz.underlying23 ho
  rw [cells23] at hs
  obtain ⟨fuel, hf⟩ := h
  obtain ⟨xs, n, -, -, -, hl, hx⟩ := DataW.trod_struct Tryz.underlying23 hf
  have hi : ∀ i, i < 3 → ∃ n : Int, cs.toList[i]? = some (.int .i64 n) ∧ (Lit.int .i64 n).wf = true := by
    intro i hi
    have hxs : ∃ x, xs[i]? = some x := ⟨_, List.getElem?_eq_getElem (by rw [hl]; exact hi)⟩
    obtain ⟨x, hxi⟩ := hxs
    have hc : i = 0 ∨ i = 1 ∨ i = 2 := by omega
    rcases hc with rfl | rfl | rfl
    · have := (hx 0 _ rfl).trans hxi
      obtain ⟨n, h1, _, h2⟩ := DataW.trod_int Tryz.underlying3 this
      change List.take (Tryz.prog.cellsOf 3) (List.drop 0 cs.toList) = _ at h1
      rw [cells3] at h1
      exact ⟨n, take_one h1, h2⟩
    · have := (hx 1 _ rfl).trans hxi
      obtain ⟨n, h1, _, h2⟩ := DataW.trod_int Tryz.underlying3 this
      change List.take (Tryz.prog.cellsOf 3) (List.drop 1 cs.toList) = _ at h1
      rw [cells3] at h1
      exact ⟨n, take_one h1, h2⟩
    · have := (hx 2 _ rfl).trans hxi
      obtain ⟨n, h1, _, h2⟩ := DataW.trod_int Tryz.underlying3 this
      change List.take (Tryz.prog.cellsOf 3) (List.drop 2 cs.toList) = _ at h1
      rw [cells3] at h1
      exact ⟨n, take_one h1, h2⟩
  obtain ⟨a, ha, wa⟩ := hi 0 (by omega)
  obtain ⟨b, hb, wb⟩ := hi 1 (by omega)
  obtain ⟨c, hc, wc⟩ := hi 2 (by omega)
  refine ⟨a, b, c, ?_, wa, wb, wc⟩
  obtain ⟨l⟩ := cs
  match l, hs with
  | [x, y, z], _ =>
    cases ha
    cases hb
    cases hc
    rfl

set_option maxRecDepth 100000 in
set_option maxHeartbeats 2000000 in
theorem lifted (os : Os) (started : os.Started) (H : Type) (enc : TypeId × Value → H) (F : Stop.Interp) :
    ReturnsInHanded {} Tryz.checked os 3 .any ((OpenSpec.ofChange Rows.treeNilsSpec).preRow enc Tryz.prog Tryz.f3 Rows.treeNilsRow.domain false Rows.treeNilsRow.laid) (((OpenSpec.ofChange Rows.treeNilsSpec).at F).post enc Tryz.prog Tryz.f3 false true false false) := by
  refine returnsInHanded_of_row (C := Tryz.checked) (s := OpenSpec.ofChange Rows.treeNilsSpec) own started (by kernel_rfl) Tryz.func3
    (witness_row_atRef (enc := enc) (C := Tryz.checked) false (laidWorld os) #[.agg #[.int .i64 0, .int .i64 0, .int .i64 0], .int .i64 0] rfl (by kernel_rfl) (by kernel_rfl) (by kernel_rfl) (witness_row os enc)) ?_
  intro W base args ds gs before hval0 hW _ _ _ hL _ _
  have hval : ∀ (j : Nat) t v, Tryz.f3.params[j]? = some t → args[j]? = some v → Value.okWide Tryz.prog W .any base t v := hval0
  have hW' := hW
  obtain ⟨p, q, hA0, hV, rfl, hfz, hnd⟩ := hW
  have hA : DataW.TrodAll enc Tryz.prog W 0 (fun _ => true) true Tryz.f3.params.toList args.toList ds p := hA0
  rw [Tryz.params3] at hA hval
  obtain ⟨v0, vs0, d0, ds0, p0, q0, hargs, rfl, rfl, h0, r0⟩ := trodAll_cons hA
  obtain ⟨v1, vs1, d1, ds1, p1, q1, rfl, rfl, rfl, h1, r1⟩ := trodAll_cons r0
  obtain ⟨rfl, rfl, rfl⟩ := trodAll_nil r1
  obtain rfl : args = #[v0, v1] := by cases args; simp_all
  obtain ⟨rfl, rfl⟩ := trodVars_none hV
  have k0 := h0
  have lt0 : ∀ x ∈ p0, x.block < W.heap.size := by obtain ⟨m, hm⟩ := k0; exact DataW.trod_lt m _ _ _ hm
  obtain ⟨a, d, l, rfl, wa, wd, wl⟩ := open_geom (hval 0 23 v0 rfl rfl) h0
  obtain ⟨s, rfl, rfl, rfl, ws⟩ := open_int Tryz.underlying3 (hval 1 3 v1 rfl rfl) h1
  clear hA0 hval0
  have hsz : 0 < W.heap.size := by
    obtain ⟨g, t, cs, fuel, p, h1, h2, h3, h4⟩ := Lib.laidMet.reads hL (.head _)
    unfold World.var? at h3
    rw [h1, Option.bind_some] at h3
    split at h3
    · rename_i cs t fr hg
      have := (Array.getElem?_eq_some_iff.1 hg).1
      omega
    · cases h3
  obtain ⟨a1, a2⟩ := bounds_i64 wa
  obtain ⟨d1, d2⟩ := bounds_i64 wd
  obtain ⟨l1, l2⟩ := bounds_i64 wl
  refine (M2.treenils_any a d l s W hsz (by omega) (by omega) (by omega) (by omega) (by omega) (by omega)).mono fun e W' ⟨he, bel⟩ => ?_
  subst he
  exact ⟨_, rfl, _, _, _, [], _, [], hW', trodAll_mk1 (shut_bool Tryz.underlying4 _), (trodAll_cons_mk (Below.trod laidOut (by kernel_rfl) (of_decide_eq_true (by kernel_rfl)) k0 bel lt0) (trodAll_cons_mk (shut_int Tryz.underlying3 ws) trodAll_mk0)), rfl, bel.frame _, fun h => by cases h⟩

theorem over : Rows.TreeNilsSaid :=
  OpenClaim.holds_of_cond 3 Tryz.f3 rfl rfl rfl rfl rfl rfl rfl ⟨rfl, rfl, rfl, rfl, rfl⟩ rfl rfl rfl rfl rfl (by kernel_rfl) Tryz.func3 closed
    (of_decide_eq_true (by kernel_rfl)) (by unfold Func.isWrapper; first | (rw [if_pos (by decide +kernel)]; kernel_rfl) | (rw [if_neg (by decide +kernel)]; exact ⟨rfl, rfl⟩))
    (fun os started H enc _ F0 => by rw [OpenClaim.pre_eq_preRow]; exact lifted os started H enc F0)
theorem proved : Rows.TreeNilsCardSaid :=
  Claim7.holds_tied_plain_at .later [] [.data, .data, .data, .data, .data, .pinned] true (true, "30befe23d7ec1edb5940cf99790f1022097c40f769d9fc0dca2f3db5fb24e5c7") true
    over (fun _ h => by cases h) (by kernel_rfl) (fun _ h => by cases h) treeNils_row_tie rfl ⟨rfl, rfl⟩ (by kernel_rfl) rfl
    (fun f fn hf hfn => by
      obtain rfl : f = 3 := Option.some.inj ((show Tryz.prog.funcNamed "oubliette/oubliettelaw30.TreeNils" = some 3 by kernel_rfl).symm.trans hf) |>.symm
      obtain rfl : fn = Tryz.f3 := (Option.some.inj (Tryz.func3.symm.trans hfn)).symm
      exact ⟨by kernel_rfl, fun j t ht => by
        rw [Tryz.params3] at ht
        have hm : t ∈ [23, 3] := by simpa using Array.mem_of_getElem? ht
        have hall : ([23, 3].all fun u => !Tryz.prog.wantsStandIn u) = true := by kernel_rfl
        exact (show Tryz.prog.wantsStandIn t = false by simpa using List.all_eq_true.1 hall t hm)⟩)
    (by kernel_rfl)
#print axioms proved
end Go.Proofs.YtpmlofbpiajkbaaGreatDoor.treeNils
namespace Go.Proofs.YtpmlofbpiajkbaaGreatDoor
theorem treeNils_holds : Rows.TreeNilsCardSaid := treeNils.proved
end Go.Proofs.YtpmlofbpiajkbaaGreatDoor
