/- Part 8: plain laws on the program's data, pairs and positions. Nothing of a program is said here but the operations on ints that the model has. -/
import Derived.Test.YthcoliemlekojaaKG
namespace Go.KLib

noncomputable def tt (p : Prop) : Bool := @decide p (Classical.propDecidable p)
theorem tt_iff {p : Prop} : tt p = true ↔ p := by unfold tt; exact @decide_eq_true_iff p (Classical.propDecidable p)
theorem tt_true {p : Prop} (h : p) : true = tt p := (tt_iff.2 h).symm
theorem tt_false {p : Prop} (h : ¬ p) : false = tt p := by
  cases e : tt p
  · rfl
  · exact absurd (tt_iff.1 e) h
theorem tt_eq {p q : Prop} (h : p ↔ q) : tt p = tt q := by
  cases e : tt q
  · exact (tt_false (fun hp => by rw [tt_iff.2 (h.1 hp)] at e; cases e)).symm
  · exact tt_iff.2 (h.2 (tt_iff.1 e))
theorem tt_dec {p : Prop} {_ : Decidable p} : decide p = tt p := by
  by_cases h : p
  · rw [← tt_true h]; exact decide_eq_true h
  · rw [← tt_false h]; exact decide_eq_false h
theorem bt_t {p : Prop} (h : tt p = true) : p := tt_iff.1 h
theorem bf_t {p : Prop} (h : tt p = false) : ¬ p := fun hp => by rw [tt_iff.2 hp] at h; cases h

/-! ### Pairs -/
def okP (p : Pair) : Prop := 0 ≤ p.f ∧ p.f ≤ 4 ∧ 0 ≤ p.t ∧ p.t ≤ 4
def lessP (a b : Pair) : Prop := a.f < b.f ∨ (a.f = b.f ∧ a.t < b.t)
def ArePP (l : List Pair) (k : Nat) : Prop := (∀ i p, i < k → l[i]? = some p → okP p) ∧ (∀ i p q, i + 1 < k → l[i]? = some p → l[i + 1]? = some q → lessP p q)
def ArePairs (l : List Pair) : Prop := ArePP l l.length
theorem are_zero (l : List Pair) : ArePP l 0 := ⟨fun _ _ h => absurd h (by omega), fun _ _ _ h => absurd h (by omega)⟩
theorem are_step {l : List Pair} {k : Nat} {y : Pair} (h : ArePP l k) (hy : l[k]? = some y) (ok : okP y) (hs : ∀ j p, j + 1 = k → l[j]? = some p → lessP p y) : ArePP l (k + 1) := by
  refine ⟨fun i p hi hp => ?_, fun i p q hi hp hq => ?_⟩
  · by_cases e : i = k
    · subst e; rw [hy] at hp; cases hp; exact ok
    · exact h.1 i p (by omega) hp
  · by_cases e : i + 1 = k
    · subst e; rw [hy] at hq; cases hq; exact hs i p rfl hp
    · exact h.2 i p q (by omega) hp hq
theorem are_all {l : List Pair} {k : Nat} (h : ArePP l k) (h1 : l.length ≤ k) : ArePairs l := ⟨fun i p hi => h.1 i p (by omega), fun i p q hi => h.2 i p q (by omega)⟩
theorem are_ok {l : List Pair} (e : ArePairs l) {k : Nat} {y : Pair} (hy : l[k]? = some y) : okP y := e.1 k y (List.getElem?_eq_some_iff.1 hy).1 hy
theorem are_lt {l : List Pair} (e : ArePairs l) {j k : Nat} {p y : Pair} (hj : j + 1 = k) (hp : l[j]? = some p) (hy : l[k]? = some y) : lessP p y := by
  subst hj
  exact e.2 j p y (List.getElem?_eq_some_iff.1 hy).1 hp hy
def cmpI (a b : Int) : Int := if a < b then -1 else if b < a then 1 else 0
def cmpP (a b : Pair) : Int := if a.f = b.f then cmpI a.t b.t else cmpI a.f b.f
theorem cmpP_lt (a b : Pair) : cmpP a b < 0 ↔ lessP a b := by
  unfold cmpP cmpI lessP
  repeat' split
  all_goals omega
theorem cmpP_eq (a b : Pair) : cmpP a b = 0 ↔ a = b := by
  obtain ⟨a1, a2⟩ := a
  obtain ⟨b1, b2⟩ := b
  simp only [Pair.mk.injEq, cmpP, cmpI]
  repeat' split
  all_goals omega

/-! ### The operations on bits, as the model has them -/
def iand (x y : Int) : Int := IntKind.i64.wrap (BitVec.ofInt IntKind.i64.bits x &&& BitVec.ofInt IntKind.i64.bits y).toNat
def ior (x y : Int) : Int := IntKind.i64.wrap (BitVec.ofInt IntKind.i64.bits x ||| BitVec.ofInt IntKind.i64.bits y).toNat
def ixor (x y : Int) : Int := IntKind.i64.wrap (BitVec.ofInt IntKind.i64.bits x ^^^ BitVec.ofInt IntKind.i64.bits y).toNat
def ishl (x y : Int) : Int := IntKind.i64.wrap (x * 2 ^ (min y.toNat IntKind.i64.bits))
def ishr (x y : Int) : Int := x.fdiv (2 ^ (min y.toNat IntKind.i64.bits))
def w64 (x : Int) : Int := IntKind.i64.wrap x

section
variable {P : Program} {w : World} {l : KL} {dst : Option Tmp} {ty : TypeId} {pos : String} {aft : Array Go.Edge} {gd : Option (Nat × Bool)} {x y : Operand} {xt yt : TypeId} {a b : Int} {k : IntKind}
theorem r_and (hx : ev l x = some (.int .i64 a)) (hy : ev l y = some (.int .i64 b)) : Runs P l ⟨dst, .binOp .and xt x y yt, ty, pos, aft, gd⟩ w (.int .i64 (iand a b)) w := fun ρ hρ => by
  simp [execOp, hρ _ _ hx, hρ _ _ hy, eqGuard, binOp, Op.intBits, iand]
theorem r_or (hx : ev l x = some (.int .i64 a)) (hy : ev l y = some (.int .i64 b)) : Runs P l ⟨dst, .binOp .or xt x y yt, ty, pos, aft, gd⟩ w (.int .i64 (ior a b)) w := fun ρ hρ => by
  simp [execOp, hρ _ _ hx, hρ _ _ hy, eqGuard, binOp, Op.intBits, ior]
theorem r_xor (hx : ev l x = some (.int .i64 a)) (hy : ev l y = some (.int .i64 b)) : Runs P l ⟨dst, .binOp .xor xt x y yt, ty, pos, aft, gd⟩ w (.int .i64 (ixor a b)) w := fun ρ hρ => by
  simp [execOp, hρ _ _ hx, hρ _ _ hy, eqGuard, binOp, Op.intBits, ixor]
theorem r_shl (h : 0 ≤ b) (hx : ev l x = some (.int .i64 a)) (hy : ev l y = some (.int k b)) : Runs P l ⟨dst, .binOp .shl xt x y yt, ty, pos, aft, gd⟩ w (.int .i64 (ishl a b)) w := fun ρ hρ => by
  have hn : ¬ b < 0 := by omega
  simp [execOp, hρ _ _ hx, hρ _ _ hy, eqGuard, binOp, Op.shift, hn, ishl]
theorem r_shr (h : 0 ≤ b) (hx : ev l x = some (.int .i64 a)) (hy : ev l y = some (.int k b)) : Runs P l ⟨dst, .binOp .shr xt x y yt, ty, pos, aft, gd⟩ w (.int .i64 (ishr a b)) w := fun ρ hρ => by
  have hn : ¬ b < 0 := by omega
  simp [execOp, hρ _ _ hx, hρ _ _ hy, eqGuard, binOp, Op.shift, hn, ishr]
theorem r_sub64 (hx : ev l x = some (.int .i64 a)) (hy : ev l y = some (.int .i64 b)) : Runs P l ⟨dst, .binOp .sub xt x y yt, ty, pos, aft, gd⟩ w (.int .i64 (w64 (a - b))) w := r_subW hx hy
theorem r_add64 (hx : ev l x = some (.int .i64 a)) (hy : ev l y = some (.int .i64 b)) : Runs P l ⟨dst, .binOp .add xt x y yt, ty, pos, aft, gd⟩ w (.int .i64 (w64 (a + b))) w := r_addW hx hy
end

/-! ### Positions -/
def isL (x : Int) : Prop := 0 ≤ x ∧ x ≤ 8
def inM (n : Int) (x : Int) : Prop := 0 ≤ x ∧ x ≤ w64 (ishl 1 n - 1)
def PosP (L F : List Int) (n : Int) (k : Nat) : Prop := (∀ i x, i < k → L[i]? = some x → isL x) ∧ (∀ i x, i < k → F[i]? = some x → inM n x)
def ValidP (L : List Int) (a b : Int) (F : List Int) : Prop := L.length ≤ 20 ∧ F.length = L.length ∧ inM L.length a ∧ inM L.length b ∧ PosP L F L.length L.length
theorem pos_zero (L F : List Int) (n : Int) : PosP L F n 0 := ⟨fun _ _ h => absurd h (by omega), fun _ _ h => absurd h (by omega)⟩
theorem pos_step {L F : List Int} {n : Int} {k : Nat} {y z : Int} (h : PosP L F n k) (hy : L[k]? = some y) (hz : F[k]? = some z) (h1 : isL y) (h2 : inM n z) : PosP L F n (k + 1) := by
  refine ⟨fun i x hi hx => ?_, fun i x hi hx => ?_⟩
  · by_cases e : i = k
    · subst e; rw [hy] at hx; cases hx; exact h1
    · exact h.1 i x (by omega) hx
  · by_cases e : i = k
    · subst e; rw [hz] at hx; cases hx; exact h2
    · exact h.2 i x (by omega) hx
theorem pos_all {L F : List Int} {n : Int} {k : Nat} (h : PosP L F n k) (h1 : L.length ≤ k) : PosP L F n L.length := ⟨fun i x hi => h.1 i x (by omega), fun i x hi => h.2 i x (by omega)⟩
theorem val_L {L F : List Int} {a b : Int} (e : ValidP L a b F) {k : Nat} {y : Int} (hy : L[k]? = some y) : isL y := e.2.2.2.2.1 k y (List.getElem?_eq_some_iff.1 hy).1 hy
theorem val_F {L F : List Int} {a b : Int} (e : ValidP L a b F) {k : Nat} {y : Int} (hy : F[k]? = some y) : inM L.length y := e.2.2.2.2.2 k y (by have := (List.getElem?_eq_some_iff.1 hy).1; rw [e.2.1] at this; exact this) hy

def accB (last : Int) (nl : Bool) (set : Int) : Bool := (decide (iand set 1 = 1) && nl) || !decide (iand (ishr set 1) last = 0)
def nxt (F : List Int) (set m0 : Int) : Nat → Int
  | 0 => m0
  | k + 1 => if iand (ishr set (k + 1)) 1 = 1 then ior (nxt F set m0 k) (F.getD k 0) else nxt F set m0 k
def outP (L : List Int) (nx letter : Int) : Nat → Int
  | 0 => 0
  | k + 1 => if L.getD k 0 = letter ∧ iand (ishr nx k) 1 = 1 then ior (outP L nx letter k) (ishl 1 (k + 1)) else outP L nx letter k
theorem nxt_y {F : List Int} {set m0 m y : Int} {k : Nat} (h : iand (ishr set (k + 1)) 1 = 1) (hm : m = nxt F set m0 k) (hy : F[k]? = some y) : ior m y = nxt F set m0 (k + 1) := by
  rw [nxt, if_pos h, ← hm, List.getD_eq_getElem?_getD, hy]; rfl
theorem nxt_n {F : List Int} {set m0 m : Int} {k : Nat} (h : ¬ iand (ishr set (k + 1)) 1 = 1) (hm : m = nxt F set m0 k) : m = nxt F set m0 (k + 1) := by
  rw [nxt, if_neg h]; exact hm
theorem out_y {L : List Int} {nx letter o y : Int} {k : Nat} (hy : L[k]? = some y) (h1 : y = letter) (h2 : iand (ishr nx k) 1 = 1) (ho : o = outP L nx letter k) : ior o (ishl 1 (k + 1)) = outP L nx letter (k + 1) := by
  rw [outP, if_pos ⟨by rw [List.getD_eq_getElem?_getD, hy]; exact h1, h2⟩, ho]
theorem out_n1 {L : List Int} {nx letter o : Int} {k : Nat} (h2 : ¬ iand (ishr nx k) 1 = 1) (ho : o = outP L nx letter k) : o = outP L nx letter (k + 1) := by
  rw [outP, if_neg (fun e => h2 e.2)]; exact ho
theorem out_n2 {L : List Int} {nx letter o y : Int} {k : Nat} (hy : L[k]? = some y) (h1 : ¬ y = letter) (ho : o = outP L nx letter k) : o = outP L nx letter (k + 1) := by
  rw [outP, if_neg (fun e => h1 (by have := e.1; rw [List.getD_eq_getElem?_getD, hy] at this; exact this))]; exact ho
def afterP (L : List Int) (first : Int) (F : List Int) (set letter : Int) : Int := outP L (nxt F set (if iand set 1 = 1 then first else 0) L.length) letter L.length
noncomputable def afterR (L : List Int) (a b : Int) (F : List Int) (set letter : Int) : Int := bif tt (ValidP L a b F ∧ inM (L.length + 1) set) then afterP L a F set letter else 0
theorem afterR_no {L F : List Int} {a b set letter : Int} (h : ¬ (ValidP L a b F ∧ inM (L.length + 1) set)) : 0 = afterR L a b F set letter := by
  unfold afterR; rw [← tt_false h]; rfl
theorem afterR_yes {L F : List Int} {a b set letter : Int} (h : ValidP L a b F ∧ inM (L.length + 1) set) : afterP L a F set letter = afterR L a b F set letter := by
  unfold afterR; rw [← tt_true h]; rfl

end Go.KLib
