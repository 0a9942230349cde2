/- A verified interpreter: its values, its heap, and what they stand for. -/
import Derived.CallsIn
import Derived.RangeFuncIn
import Derived.DefersIn
import Derived.WalkKit
set_option linter.unusedVariables false
namespace Go.Proofs.YtpmlofbpiajkbaaGreatDoor.M2
open Go

/-! ## Values -/
/-- How much room a slice has behind its start: so much; or: not known, at least its length, of elements of sz cells. -/
inductive Room where
  | known (c : Nat)
  | own (sz : Nat)
  deriving DecidableEq
inductive AV where
  | bool (b : Bool)
  | int (k : IntKind) (n : Int)
  | str (s : List Nat)
  | nilp
  | ptr (b o : Nat)
  | nils
  | empty
  | slice (b o n : Nat) (c : Room)
  | nilm
  | map (b : Nat)
  | fn (f : Nat) (first cap : List AV)
  | yield (l : Nat)
  | nilf
  | iface (t : Nat) (v : AV)
  | nili
  | agg (cs : List AV)
  | tup (vs : List AV)
  /-- A whole number that is not known but for its bounds: what a name stands for, and c more (or: c less what it stands for). -/
  | tok (k : IntKind) (neg : Bool) (b : Nat) (c lo hi : Int)
  /-- A whole number of which nothing is known. -/
  | anyi (k : IntKind)
  /-- A slice, so long as a number with a name says. -/
  | slt (b o t : Nat) (c : Int) (lo hi : Nat)
  deriving Inhabited
abbrev AV.und : AV := .tup []
def AV.cells : AV → List AV
  | .agg cs => cs
  | v => [v]
/-- Is it no tuple? -/
def AV.okc : AV → Bool
  | .tup _ => false
  | _ => true
/-- Blocks: by abstract names; each stands for a block of the machine's and its number of cells. -/
abbrev Phi := Nat → Option (Nat × Nat)
mutual
inductive VR (φ : Phi) : AV → Value → Prop
  | bool (b : Bool) : VR φ (.bool b) (.bool b)
  | int (k : IntKind) (n : Int) : VR φ (.int k n) (.int k n)
  | str (s : ByteArray) : VR φ (.str (s.data.toList.map (·.toNat))) (.string s)
  | nilp : VR φ .nilp (.pointer none)
  | ptr {b c z : Nat} (o : Nat) (h : φ b = some (c, z)) : VR φ (.ptr b o) (.pointer (some ⟨c, o, none⟩))
  | nils : VR φ .nils (.slice none 0 0)
  | empty (a : Addr) (cap : Nat) : VR φ .empty (.slice (some a) 0 cap)
  | slice {b c z : Nat} (o n cap sz : Nat) (h : φ b = some (c, z)) (hn : n ≤ cap) (hz : o + cap * sz ≤ z) : VR φ (.slice b o n (.own sz)) (.slice (some ⟨c, o, none⟩) n cap)
  | sliceK {b c z : Nat} (o n cap : Nat) (h : φ b = some (c, z)) : VR φ (.slice b o n (.known cap)) (.slice (some ⟨c, o, none⟩) n cap)
  | nilm : VR φ .nilm (.map none)
  | map {b c z : Nat} (h : φ b = some (c, z)) : VR φ (.map b) (.map (some c))
  | fn {f : Nat} {l1 l2 : List AV} {a1 a2 : Array Value} (h1 : VRs φ l1 a1.toList) (h2 : VRs φ l2 a2.toList) : VR φ (.fn f l1 l2) (.func (.func f) a1 a2)
  | yield {l c z : Nat} (h : φ l = some (c, z)) : VR φ (.yield l) (.func (.yield c) #[] #[])
  | nilf : VR φ .nilf .nilFunc
  | iface {t : Nat} {v : AV} {v' : Value} (h : VR φ v v') : VR φ (.iface t v) (.iface t v')
  | nili : VR φ .nili .nilIface
  | agg {l : List AV} {a : Array Value} (h : VRs φ l a.toList) (h1 : ∀ v ∈ a.toList, v.oneCell' = true) : VR φ (.agg l) (.agg a)
  | tup {l : List AV} {a : Array Value} (h : VRs φ l a.toList) : VR φ (.tup l) (.tuple a)
  | tok {b q z : Nat} (k : IntKind) (neg : Bool) (c lo hi v : Int) (h : φ b = some (q, z)) (hv : v = if neg then c - z else c + z) (h1 : lo ≤ v) (h2 : v ≤ hi) : VR φ (.tok k neg b c lo hi) (.int k v)
  | anyi (k : IntKind) (n : Int) : VR φ (.anyi k) (.int k n)
  | slt {b c z t ct zt : Nat} (o : Nat) (cc : Int) (lo hi n : Nat) (h : φ b = some (c, z)) (ht : φ t = some (ct, zt)) (hn : (n : Int) = cc + zt) (h1 : lo ≤ n) (h2 : n ≤ hi) : VR φ (.slt b o t cc lo hi) (.slice (some ⟨c, o, none⟩) n n)
inductive VRs (φ : Phi) : List AV → List Value → Prop
  | nil : VRs φ [] []
  | cons {x : AV} {v : Value} {l : List AV} {r : List Value} (h : VR φ x v) (t : VRs φ l r) : VRs φ (x :: l) (v :: r)
end
/-- What is told of blocks stays told. -/
def Phi.le (φ ψ : Phi) : Prop := ∀ b p, φ b = some p → ψ b = some p
theorem Phi.le.refl (φ : Phi) : φ.le φ := fun _ _ h => h
theorem Phi.le.trans {φ ψ χ : Phi} (h : φ.le ψ) (k : ψ.le χ) : φ.le χ := fun b p e => k b p (h b p e)
mutual
theorem VR.mono {φ ψ : Phi} (h : φ.le ψ) : ∀ {x : AV} {v : Value}, VR φ x v → VR ψ x v
  | _, _, .bool b => .bool b
  | _, _, .int k n => .int k n
  | _, _, .str s => .str s
  | _, _, .nilp => .nilp
  | _, _, .ptr o e => .ptr o (h _ _ e)
  | _, _, .nils => .nils
  | _, _, .empty a c => .empty a c
  | _, _, .slice o n cap sz e a b => .slice o n cap sz (h _ _ e) a b
  | _, _, .sliceK o n cap e => .sliceK o n cap (h _ _ e)
  | _, _, .nilm => .nilm
  | _, _, .map e => .map (h _ _ e)
  | _, _, .fn a b => .fn (VRs.mono h a) (VRs.mono h b)
  | _, _, .yield e => .yield (h _ _ e)
  | _, _, .nilf => .nilf
  | _, _, .iface a => .iface (VR.mono h a)
  | _, _, .nili => .nili
  | _, _, .agg a o => .agg (VRs.mono h a) o
  | _, _, .tup a => .tup (VRs.mono h a)
  | _, _, .tok k neg c lo hi v e q a b => .tok k neg c lo hi v (h _ _ e) q a b
  | _, _, .anyi k n => .anyi k n
  | _, _, .slt o cc lo hi n e f q a b => .slt o cc lo hi n (h _ _ e) (h _ _ f) q a b
theorem VRs.mono {φ ψ : Phi} (h : φ.le ψ) : ∀ {l : List AV} {r : List Value}, VRs φ l r → VRs ψ l r
  | _, _, .nil => .nil
  | _, _, .cons a t => .cons (VR.mono h a) (VRs.mono h t)
end
section
variable {φ : Phi} {l l2 : List AV} {r r2 : List Value}
theorem VRs.length (h : VRs φ l r) : l.length = r.length := by
  induction l generalizing r with
  | nil => cases h; rfl
  | cons x l ih => cases h with | cons a t => simp [ih t]
theorem VRs.get (h : VRs φ l r) (i : Nat) {x : AV} (hx : l[i]? = some x) : ∃ v, r[i]? = some v ∧ VR φ x v := by
  induction l generalizing r i with
  | nil => simp at hx
  | cons y l ih =>
    cases h with
    | cons a t =>
      cases i with
      | zero => simp at hx; subst hx; exact ⟨_, rfl, a⟩
      | succ i => simp at hx; simpa using ih t i hx
theorem VRs.get_none (h : VRs φ l r) (i : Nat) (hx : l[i]? = none) : r[i]? = none := by
  rw [List.getElem?_eq_none_iff] at *
  rw [← h.length]; exact hx
theorem VRs.append (h : VRs φ l r) (k : VRs φ l2 r2) : VRs φ (l ++ l2) (r ++ r2) := by
  induction l generalizing r with
  | nil => cases h; exact k
  | cons x l ih => cases h with | cons a t => exact .cons a (ih t)
theorem VRs.take (h : VRs φ l r) (n : Nat) : VRs φ (l.take n) (r.take n) := by
  induction l generalizing r n with
  | nil => cases h; simp; exact .nil
  | cons x l ih =>
    cases h with
    | cons a t =>
      cases n with
      | zero => exact .nil
      | succ n => exact .cons a (ih t n)
theorem VRs.drop (h : VRs φ l r) (n : Nat) : VRs φ (l.drop n) (r.drop n) := by
  induction l generalizing r n with
  | nil => cases h; simp; exact .nil
  | cons x l ih =>
    cases h with
    | cons a t =>
      cases n with
      | zero => exact .cons a t
      | succ n => exact ih t n
theorem VRs.set (h : VRs φ l r) (i : Nat) {x : AV} {v : Value} (hx : VR φ x v) : VRs φ (l.set i x) (r.set i v) := by
  induction l generalizing r i with
  | nil => cases h; exact .nil
  | cons y l ih =>
    cases h with
    | cons a t =>
      cases i with
      | zero => exact .cons hx t
      | succ i => exact .cons a (ih t i)
theorem VRs.replicate {x : AV} {v : Value} (hx : VR φ x v) (n : Nat) : VRs φ (List.replicate n x) (List.replicate n v) := by
  induction n with
  | zero => exact .nil
  | succ n ih => exact .cons hx ih
theorem VRs.arr (h : VRs φ l r) : VRs φ l r.toArray.toList := by simpa using h
end
theorem VR.und (φ : Phi) : VR φ .und undef := .tup (a := #[]) .nil
theorem VR.cells {φ : Phi} {x : AV} {v : Value} (h : VR φ x v) : VRs φ x.cells v.cells.toList := by
  cases h <;> first | exact ‹VRs φ _ _› | exact .cons (by constructor <;> assumption) .nil | skip
theorem VR.okc {φ : Phi} {x : AV} {v : Value} (h : VR φ x v) (ho : x.okc = true) : ∀ u ∈ v.cells.toList, u.oneCell' = true := by
  cases h <;> first | (simp [AV.okc] at ho; done) | assumption | (intro u hu; simp [Value.cells] at hu; subst hu; rfl)

/-! ## Constants -/
def ofCell : Value → Option AV
  | .bool b => some (.bool b)
  | .int k n => some (.int k n)
  | .string s => some (.str (s.data.toList.map (·.toNat)))
  | .pointer none => some .nilp
  | .slice none 0 0 => some .nils
  | .map none => some .nilm
  | .nilFunc => some .nilf
  | .nilIface => some .nili
  | .tuple ⟨[]⟩ => some .und
  | _ => none
def ofCells : List Value → Option (List AV)
  | [] => some []
  | v :: r => match ofCell v with
    | none => none
    | some x => match ofCells r with
      | none => none
      | some l => some (x :: l)
def ofVal : Value → Option AV
  | .agg ⟨cs⟩ => match ofCells cs with
    | some l => if cs.all (·.oneCell') then some (.agg l) else none
    | none => none
  | v => ofCell v
theorem ofCell_VR (φ : Phi) {v : Value} {x : AV} (h : ofCell v = some x) : VR φ x v := by
  unfold ofCell at h
  split at h <;> (try cases h) <;> first | (exact .tup (a := #[]) .nil) | constructor
theorem ofCells_VRs (φ : Phi) : ∀ {r : List Value} {l : List AV}, ofCells r = some l → VRs φ l r
  | [], _, h => by cases h; exact .nil
  | v :: r, l, h => by
    unfold ofCells at h
    split at h
    · cases h
    · rename_i x hx
      split at h
      · cases h
      · rename_i l' hl
        cases h
        exact .cons (ofCell_VR φ hx) (ofCells_VRs φ hl)
theorem ofVal_VR (φ : Phi) {v : Value} {x : AV} (h : ofVal v = some x) : VR φ x v := by
  unfold ofVal at h
  split at h
  · rename_i cs
    split at h
    · rename_i l hl
      split at h
      · rename_i ho
        cases h
        exact .agg (a := ⟨cs⟩) (ofCells_VRs φ hl) (fun v hv => List.all_eq_true.1 ho v hv)
      · cases h
    · cases h
  · exact ofCell_VR φ h
end Go.Proofs.YtpmlofbpiajkbaaGreatDoor.M2
