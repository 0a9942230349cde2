/- The interpreter over this program, and that what it asks is so. -/
import Derived.Test.YtpmlofbpiajkbaaGreatDoorEx
import Derived.Test.YtpmlofbpiajkbaaGreatDoorTb
set_option linter.unusedVariables false
namespace Go.Proofs.YtpmlofbpiajkbaaGreatDoor.M2
open Go
noncomputable section
theorem bodies_ok : ((List.range Tryz.prog.funcs.size).all fun f => match fnT.get f with
    | some fn => match fn.body with
      | some _ => !(fn.name == "runtime.NumGoroutine")
      | none => true
    | none => false) = true := by kernel_rfl
theorem name_ok (f : Nat) (fn : Func) (c : Code) (h : Tryz.prog.funcs[f]? = some fn) (hb : fn.body = some c) : (fn.name == "runtime.NumGoroutine") = false := by
  have hlt := (Array.getElem?_eq_some_iff.1 h).1
  have := List.all_eq_true.1 bodies_ok f (List.mem_range.2 hlt)
  split at this
  · rename_i fn2 h2
    have h3 := fnsF_ok f fn2 h2
    rw [h] at h3
    cases h3
    rw [hb] at this
    simpa using this
  · cases this
def orc0 (f : Nat) : Option (List AV → AH → Option (AV × AH)) :=
  cnd (Nat.beq f 319) (some idxG) (cnd (Nat.beq f 112) (some srtG) none)
theorem orc0_ok (B : Phi) (f : Nat) (g : List AV → AH → Option (AV × AH)) (h : orc0 f = some g) (args : List AV) (ah : AH) (v : AV) (ah' : AH) (e : g args ah = some (v, ah')) : CallOk Tryz.prog B f args ah v ah' := by
  unfold orc0 at h
  simp only [cnd_eq] at h
  split at h
  · rename_i hf
    cases h
    rw [Nat.eq_of_beq_eq_true hf]
    exact idx_ok B e
  · split at h
    · rename_i hf
      cases h
      rw [Nat.eq_of_beq_eq_true hf]
      exact srt_ok B e
    · cases h
/-- With such oracles. -/
def cfgW (o : Nat → Option (List AV → AH → Option (AV × AH))) : Cfg := ⟨Tryz.prog, fun _ => none, undF, infF, fnT.get, o, fun f => Nat.beq f 216⟩
theorem cfgW_ok {o : Nat → Option (List AV → AH → Option (AV × AH))} (h : ∀ f g, o f = some g → ∀ args ah v ah', g args ah = some (v, ah') → CallOk Tryz.prog (fun _ => none) f args ah v ah') : CfgOk (cfgW o) where
  hund := undF_eq
  hinf := infF_eq
  hfns := fnsF_ok
  mixed := by kernel_rfl
  hst t ht := by
    have := Nat.eq_of_beq_eq_true ht
    subst this
    exact Tryz.stoodInHeld280
  name := name_ok
  orc := h
  noop := noop_ok
def C0 : Cfg := cfgW orc0
theorem C0_ok : CfgOk C0 := cfgW_ok fun f g h args ah v ah' e => orc0_ok _ f g h args ah v ah' e
end
end Go.Proofs.YtpmlofbpiajkbaaGreatDoor.M2
