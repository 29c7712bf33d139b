/- Expressions: what the constructors build. -/
import Derived.Test.YthcoliemlekojaaKJ
namespace Go.KLib
def repE (e : List Token) (low high : Int) : List Token :=
  if low = 0 ∧ high = 0 then [⟨2, 0, 0, 0⟩] else if low = 1 ∧ high = 1 then e else e ++ [⟨7, 0, low, high⟩]
theorem repE_len (e : List Token) (low high : Int) : (repE e low high).length ≤ e.length + 1 := by
  unfold repE; split
  · simp
  · split <;> simp

def isK (e : List Token) (k : Int) : Bool := decide (e.length = 1 ∧ (e.getD 0 ⟨0, 0, 0, 0⟩).kind = k)
theorem isK_n {e : List Token} {k : Int} (h : ¬ (e.length : Int) = 1) : false = isK e k := by
  have : ¬ e.length = 1 := by omega
  simp [isK, this]
theorem isK_y {e : List Token} {k : Int} {y : Token} (h : (e.length : Int) = 1) (hy : e[0]? = some y) : decide (y.kind = k) = isK e k := by
  have : e.length = 1 := by omega
  unfold isK; rw [List.getD_eq_getElem?_getD, hy]; simp [this]
def starE (e : List Token) : List Token :=
  if isK e 1 || isK e 2 then [⟨2, 0, 0, 0⟩] else if 0 < e.length ∧ (e.getD (e.length - 1) ⟨0, 0, 0, 0⟩).kind = 6 then e else e ++ [⟨6, 0, 0, 0⟩]
theorem star_last {e : List Token} {y z : Token} (h : (0 : Int) < e.length) (hy : e[((e.length : Int) - 1).toNat]? = some y) : e.getD (e.length - 1) z = y := by
  have : ((e.length : Int) - 1).toNat = e.length - 1 := by omega
  rw [this] at hy
  rw [List.getD_eq_getElem?_getD, hy]; rfl
theorem starE_len (e : List Token) : (starE e).length ≤ e.length + 1 := by
  unfold starE; split
  · simp
  · split <;> simp
def catE (a b : List Token) : List Token :=
  if isK a 1 || isK b 1 then [⟨1, 0, 0, 0⟩] else if isK a 2 then b else if isK b 2 then a else a ++ b ++ [⟨4, 0, 0, 0⟩]
theorem catE_len (a b : List Token) : (catE a b).length ≤ a.length + b.length + 1 := by
  unfold catE; repeat' split
  all_goals first | omega | (simp; done) | (simp; omega)
def uniE (a b : List Token) : List Token :=
  if isK a 1 || decide (a = b) then b else if isK b 1 then a else a ++ b ++ [⟨5, 0, 0, 0⟩]
theorem uniE_len (a b : List Token) : (uniE a b).length ≤ a.length + b.length + 1 := by
  unfold uniE; repeat' split
  all_goals first | omega | (simp; done) | (simp; omega)
end Go.KLib
