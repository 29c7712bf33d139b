/- Counted runs. -/
import Derived.Test.YthcoliemlekojaaJB
namespace Go.KLib

def mn (x : Int) : Int := if x < 1000000 then x else 1000000
abbrev Rg9 (l : List Int) : Prop := ∀ x ∈ l, 0 ≤ x ∧ x ≤ 1000000
def crB (T c : Int) (nx : List Int) (k : Nat) : List Int := bif decide (0 < c) && decide (iand (ishr T k) 1 = 1) then nx.set k (mn (nx.getD k 0 + c)) else nx
def cr1 (T c : Int) (nx : List Int) : Nat → List Int
  | 0 => nx
  | k + 1 => crB T c (cr1 T c nx k) k
def cr2 (Tf : Nat → Int) (ns nx : List Int) (m : Nat) : Nat → List Int
  | 0 => nx
  | s + 1 => cr1 (Tf s) (ns.getD s 0) (cr2 Tf ns nx m s) m
section
variable (L : List Int) (f : Int) (F wd : List Int)
def crT (i s : Nat) : Int := afterP L f F (ishl 1 s) (wd.getD i 0)
def crN : Nat → List Int
  | 0 => (List.replicate (L.length + 1) 0).set 0 1
  | i + 1 => cr2 (crT L f F wd i) (crN i) (List.replicate (L.length + 1) 0) (L.length + 1) (L.length + 1)
def crS (i s : Nat) : List Int := cr2 (crT L f F wd i) (crN L f F wd i) (List.replicate (L.length + 1) 0) (L.length + 1) s
def crK (i s k : Nat) : List Int := cr1 (crT L f F wd i s) ((crN L f F wd i).getD s 0) (crS L f F wd i s) k
end
theorem crB_len (T c : Int) (nx : List Int) (k : Nat) : (crB T c nx k).length = nx.length := by
  unfold crB; cases (decide (0 < c) && decide (iand (ishr T k) 1 = 1)) <;> simp
theorem cr1_len (T c : Int) (nx : List Int) : ∀ k, (cr1 T c nx k).length = nx.length
  | 0 => rfl
  | k + 1 => by unfold cr1; rw [crB_len, cr1_len T c nx k]
theorem cr2_len (Tf : Nat → Int) (ns nx : List Int) (m : Nat) : ∀ s, (cr2 Tf ns nx m s).length = nx.length
  | 0 => rfl
  | s + 1 => by unfold cr2; rw [cr1_len, cr2_len Tf ns nx m s]
theorem crN_len (L : List Int) (f : Int) (F wd : List Int) : ∀ i, (crN L f F wd i).length = L.length + 1
  | 0 => by simp [crN]
  | i + 1 => by unfold crN; rw [cr2_len]; simp
theorem crS_len (L : List Int) (f : Int) (F wd : List Int) (i s : Nat) : (crS L f F wd i s).length = L.length + 1 := by unfold crS; rw [cr2_len]; simp
theorem crK_len (L : List Int) (f : Int) (F wd : List Int) (i s k : Nat) : (crK L f F wd i s k).length = L.length + 1 := by unfold crK; rw [cr1_len, crS_len]
theorem rg9_get {l : List Int} (h : Rg9 l) (k : Nat) : 0 ≤ l.getD k 0 ∧ l.getD k 0 ≤ 1000000 := by
  rw [List.getD_eq_getElem?_getD]
  rcases hq : l[k]? with _ | x
  · simp
  · exact h x (mem_of_get hq)
theorem rg9_set {l : List Int} (h : Rg9 l) {k : Nat} {x : Int} (hx : 0 ≤ x ∧ x ≤ 1000000) : Rg9 (l.set k x) := fun y hy => by
  rcases List.mem_or_eq_of_mem_set hy with h1 | h1
  · exact h y h1
  · rw [h1]; exact hx
theorem crB_rg {T c : Int} {nx : List Int} {k : Nat} (h : Rg9 nx) : Rg9 (crB T c nx k) := by
  unfold crB
  cases hc : (decide (0 < c) && decide (iand (ishr T k) 1 = 1))
  · exact h
  · have h1 := rg9_get h k
    rw [Bool.and_eq_true, decide_eq_true_eq] at hc
    exact rg9_set h (by have := hc.1; unfold mn; split <;> omega)
theorem cr1_rg {T c : Int} {nx : List Int} (h : Rg9 nx) : ∀ k, Rg9 (cr1 T c nx k)
  | 0 => h
  | k + 1 => crB_rg (cr1_rg h k)
theorem cr2_rg {Tf : Nat → Int} {ns nx : List Int} {m : Nat} (h : Rg9 nx) : ∀ s, Rg9 (cr2 Tf ns nx m s)
  | 0 => h
  | s + 1 => cr1_rg (cr2_rg h s) m
theorem rg9_zero (n : Nat) : Rg9 (List.replicate n 0) := fun x hx => by rw [(List.mem_replicate.1 hx).2]; decide
theorem crN_rg (L : List Int) (f : Int) (F wd : List Int) : ∀ i, Rg9 (crN L f F wd i)
  | 0 => rg9_set (rg9_zero _) (by decide)
  | i + 1 => cr2_rg (rg9_zero _) _
theorem crS_rg (L : List Int) (f : Int) (F wd : List Int) (i s : Nat) : Rg9 (crS L f F wd i s) := cr2_rg (rg9_zero _) _
theorem crK_rg (L : List Int) (f : Int) (F wd : List Int) (i s k : Nat) : Rg9 (crK L f F wd i s k) := cr1_rg (crS_rg L f F wd i s) _
section
variable {L : List Int} {f : Int} {F wd : List Int} {i s k : Nat} {y c x : Int}
theorem crn_val (h : (crN L f F wd i)[s]? = some c) : 0 ≤ c ∧ c ≤ 1000000 := crN_rg L f F wd i c (mem_of_get h)
theorem crk_val (h : (crK L f F wd i s k)[k]? = some c) : 0 ≤ c ∧ c ≤ 1000000 := crK_rg L f F wd i s k c (mem_of_get h)
theorem crk_at (hy : wd[i]? = some y) (hc : (crN L f F wd i)[s]? = some c) : crK L f F wd i s (k + 1) = crB (afterP L f F (ishl 1 s) y) c (crK L f F wd i s k) k := by
  have e1 : crT L f F wd i s = afterP L f F (ishl 1 s) y := by unfold crT; rw [List.getD_eq_getElem?_getD, hy]; rfl
  have e2 : (crN L f F wd i).getD s 0 = c := by rw [List.getD_eq_getElem?_getD, hc]; rfl
  rw [show crK L f F wd i s (k + 1) = crB (crT L f F wd i s) ((crN L f F wd i).getD s 0) (crK L f F wd i s k) k from rfl, e1, e2]
theorem crk_y (hy : wd[i]? = some y) (hc : (crN L f F wd i)[s]? = some c) (hx : (crK L f F wd i s k)[k]? = some x) (h0 : 0 < c) (hb : iand (ishr (afterP L f F (ishl 1 s) y) k) 1 = 1) : (crK L f F wd i s k).set k (mn (x + c)) = crK L f F wd i s (k + 1) := by
  rw [crk_at hy hc]; unfold crB
  rw [decide_eq_true h0, decide_eq_true hb, List.getD_eq_getElem?_getD, hx]; rfl
theorem crk_n (hy : wd[i]? = some y) (hc : (crN L f F wd i)[s]? = some c) (hb : ¬ iand (ishr (afterP L f F (ishl 1 s) y) k) 1 = 1) : crK L f F wd i s k = crK L f F wd i s (k + 1) := by
  rw [crk_at hy hc]; unfold crB
  rw [decide_eq_false hb, Bool.and_false]; rfl
theorem crk_stop (hc : (crN L f F wd i)[s]? = some c) (h0 : ¬ 0 < c) : ∀ k, crK L f F wd i s k = crS L f F wd i s
  | 0 => rfl
  | k + 1 => by
    have e2 : (crN L f F wd i).getD s 0 = c := by rw [List.getD_eq_getElem?_getD, hc]; rfl
    rw [show crK L f F wd i s (k + 1) = crB (crT L f F wd i s) ((crN L f F wd i).getD s 0) (crK L f F wd i s k) k from rfl, e2]
    unfold crB; rw [decide_eq_false h0]; exact crk_stop hc h0 k
theorem crs_next : crK L f F wd i s (L.length + 1) = crS L f F wd i (s + 1) := rfl
theorem crs_end1 (h : k = L.length + 1) : crK L f F wd i s k = crS L f F wd i (s + 1) := by subst h; rfl
theorem crs_end2 (hc : (crN L f F wd i)[s]? = some c) (h0 : ¬ 0 < c) : crK L f F wd i s k = crS L f F wd i (s + 1) := by
  rw [crk_stop hc h0 k, ← crk_stop hc h0 (L.length + 1)]; rfl
theorem crn_end (h : s = L.length + 1) : crS L f F wd i s = crN L f F wd (i + 1) := by subst h; rfl
end
def crSum (last : Int) (nl : Bool) (n : List Int) : Nat → Int
  | 0 => 0
  | s + 1 => bif accB last nl (ishl 1 s) then mn (crSum last nl n s + n.getD s 0) else crSum last nl n s
theorem crsum_y {last : Int} {nl : Bool} {n : List Int} {s : Nat} {t c : Int} (ht : t = crSum last nl n s) (hc : n[s]? = some c) (hb : accB last nl (ishl 1 s) = true) : mn (t + c) = crSum last nl n (s + 1) := by
  unfold crSum; rw [hb, cond_true, List.getD_eq_getElem?_getD, hc, ht]; rfl
theorem crsum_n {last : Int} {nl : Bool} {n : List Int} {s : Nat} {t : Int} (ht : t = crSum last nl n s) (hb : accB last nl (ishl 1 s) = false) : t = crSum last nl n (s + 1) := by
  unfold crSum; rw [hb, cond_false, ht]
noncomputable def crR (L : List Int) (f last : Int) (F : List Int) (nl : Bool) (wd : List Int) : Int := bif tt (ValidP L f last F ∧ IsWd wd) then crSum last nl (crN L f F wd wd.length) (L.length + 1) else 0
theorem crr_y {L : List Int} {f last : Int} {F : List Int} {nl : Bool} {wd : List Int} {i s : Nat} {t : Int} (h1 : ValidP L f last F) (h2 : IsWd wd) (ht : t = crSum last nl (crN L f F wd i) s) (hi : i = wd.length) (hs : s = L.length + 1) : t = crR L f last F nl wd := by
  subst hi hs; unfold crR; rw [← tt_true ⟨h1, h2⟩]; exact ht
theorem crr_n {L : List Int} {f last : Int} {F : List Int} {nl : Bool} {wd : List Int} (h : ¬ (ValidP L f last F ∧ IsWd wd)) : 0 = crR L f last F nl wd := by unfold crR; rw [← tt_false h]; rfl
end Go.KLib
