/- Rows of rows beside rows of one's own; useful states, one flag known. -/
import Derived.Test.YthcoliemlekojaaKZ
namespace Go.KLib

section
variable {α : Type} {cs : α → List Value} {e k lo hi : Nat} {w w' : World} {vs : List Sv} {xs : List (List α)}
theorem Od.chS {o : Value} (h : Od cs e k w lo hi vs xs) (c : Ch (bl o) w w') (hs : Sep o vs) : Od cs e k w' lo hi vs xs :=
  ⟨h.1, fun i v x a b => ⟨(h.2.1 i v x a b).1.ch c (hs v (mem_of_get a)), (h.2.1 i v x a b).2⟩, h.2.2⟩
end
theorem usf_n1 {S : Int} {A : List Bool} {N : List (List Int)} {k : Nat} {a : Bool} (ha : (reachL S A.length N)[k]? = some a) (h : a = false) (hk : k < A.length) : usfP S A N k = usfP S A N (k + 1) := by
  have hl : k < (liveL A N).length := by rw [liveL_len]; exact hk
  rw [usf_step ha (List.getElem?_eq_getElem hl), h]; rfl
theorem usf_n2 {S : Int} {A : List Bool} {N : List (List Int)} {k : Nat} {b : Bool} (hb : (liveL A N)[k]? = some b) (h : b = false) (hk : k < A.length) : usfP S A N k = usfP S A N (k + 1) := by
  have hl : k < (reachL S A.length N).length := by rw [reachL_len]; exact hk
  rw [usf_step (List.getElem?_eq_getElem hl) hb, h, Bool.and_false]; rfl
theorem usf_y {S : Int} {A : List Bool} {N : List (List Int)} {k : Nat} {a b : Bool} (ha : (reachL S A.length N)[k]? = some a) (hb : (liveL A N)[k]? = some b) (h1 : a = true) (h2 : b = true) : usfP S A N k ++ [(k : Int)] = usfP S A N (k + 1) := by
  rw [usf_step ha hb, h1, h2]; rfl
end Go.KLib
