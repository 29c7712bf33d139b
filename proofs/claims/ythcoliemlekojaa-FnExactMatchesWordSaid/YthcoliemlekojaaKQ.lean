/- Expressions as trees: what a list of tokens stands for, and trees in memory. -/
import Derived.Test.YthcoliemlekojaaKP
namespace Go.KLib

inductive Tr where
  | l0 (t : Token)
  | l1 (t : Token) (a : Tr)
  | l2 (t : Token) (a b : Tr)
def Tr.tok : Tr → Token
  | .l0 t => t
  | .l1 t _ => t
  | .l2 t _ _ => t
def Tr.kids : Tr → List Tr
  | .l0 _ => []
  | .l1 _ a => [a]
  | .l2 _ a b => [a, b]
def Tr.flat : Tr → List Token
  | .l0 t => [t]
  | .l1 t a => a.flat ++ [t]
  | .l2 t a b => a.flat ++ b.flat ++ [t]
def Tr.sz : Tr → Nat
  | .l0 _ => 1
  | .l1 _ a => a.sz + 1
  | .l2 _ a b => a.sz + b.sz + 1
theorem Tr.flat_len : ∀ t : Tr, t.flat.length = t.sz
  | .l0 _ => rfl
  | .l1 _ a => by simp [Tr.flat, Tr.sz, flat_len a]
  | .l2 _ a b => by simp [Tr.flat, Tr.sz, flat_len a, flat_len b, Nat.add_assoc]
theorem Tr.sz_pos : ∀ t : Tr, 0 < t.sz
  | .l0 _ => Nat.one_pos
  | .l1 _ _ => Nat.succ_pos _
  | .l2 _ _ _ => Nat.succ_pos _
theorem Tr.kid_sz {t k : Tr} {i : Nat} (h : t.kids[i]? = some k) : k.sz < t.sz := by
  cases t with
  | l0 t => simp [Tr.kids] at h
  | l1 t a =>
    match i with
    | 0 => simp [Tr.kids] at h; subst h; simp [Tr.sz]
    | i + 1 => simp [Tr.kids] at h
  | l2 t a b =>
    match i with
    | 0 => simp [Tr.kids] at h; subst h; simp [Tr.sz]; omega
    | 1 => simp [Tr.kids] at h; subst h; simp [Tr.sz]; omega
    | i + 2 => simp [Tr.kids] at h

/-- How many operands a token takes; -1 for none. -/
def arT (t : Token) : Int :=
  if t.kind = 1 ∨ t.kind = 2 then (if t.letter = 0 ∧ t.low = 0 ∧ t.high = 0 then 0 else -1)
  else if t.kind = 3 then (if (0 ≤ t.letter ∧ t.letter ≤ 8) ∧ t.low = 0 ∧ t.high = 0 then 0 else -1)
  else if t.kind = 4 ∨ t.kind = 5 then (if t.letter = 0 ∧ t.low = 0 ∧ t.high = 0 then 2 else -1)
  else if t.kind = 6 then (if t.letter = 0 ∧ t.low = 0 ∧ t.high = 0 then 1 else -1)
  else if t.kind = 7 then (if t.letter = 0 ∧ (1 ≤ t.high ∧ t.high ≤ 3) ∧ (0 ≤ t.low ∧ t.low ≤ t.high) then 1 else -1)
  else -1
theorem arT_cases (t : Token) : arT t = -1 ∨ arT t = 0 ∨ arT t = 1 ∨ arT t = 2 := by
  unfold arT; repeat' split
  all_goals simp
def tokOk (t : Token) : Bool := decide (0 ≤ arT t)
def arK (k : Int) : Int := if k = 4 ∨ k = 5 then 2 else if k = 6 ∨ k = 7 then 1 else 0
theorem arK_rng (k : Int) : 0 ≤ arK k ∧ arK k ≤ 2 := by unfold arK; repeat' split; all_goals omega
theorem arT_ok {t : Token} (h : 0 ≤ arT t) : arT t = arK t.kind := by
  unfold arT arK at *
  repeat' split at h
  all_goals first | omega | (repeat' split) <;> omega

def push (st : List Tr) (t : Token) : Option (List Tr) :=
  if arT t = 0 then some (.l0 t :: st)
  else if arT t = 1 then (match st with
    | a :: r => some (.l1 t a :: r)
    | [] => none)
  else if arT t = 2 then (match st with
    | b :: a :: r => some (.l2 t a b :: r)
    | _ => none)
  else none
def prs : List Tr → List Token → Option (List Tr)
  | st, [] => some st
  | st, t :: l => (push st t).bind fun st' => prs st' l
def treeL (l : List Token) : Option Tr :=
  match prs [] l with
  | some [t] => some t
  | _ => none
def Okd : Tr → Prop
  | .l0 t => arT t = 0
  | .l1 t a => arT t = 1 ∧ Okd a
  | .l2 t a b => arT t = 2 ∧ Okd a ∧ Okd b
def flatS (st : List Tr) : List Token := (st.reverse.map Tr.flat).flatten
theorem flatS_cons (t : Tr) (st : List Tr) : flatS (t :: st) = flatS st ++ t.flat := by simp [flatS]

theorem prs_append : ∀ (l m : List Token) (st : List Tr), prs st (l ++ m) = (prs st l).bind fun st' => prs st' m
  | [], m, st => rfl
  | t :: l, m, st => by
    simp only [List.cons_append, prs]
    cases push st t with
    | none => rfl
    | some st' => exact prs_append l m st'
theorem prs_one (st : List Tr) (t : Token) : prs st [t] = push st t := by
  simp only [prs]; cases push st t <;> rfl
theorem prs_snoc {l : List Token} {st : List Tr} {k : Nat} {t : Token} (h : prs [] (l.take k) = some st) (ht : l[k]? = some t) : prs [] (l.take (k + 1)) = push st t := by
  rw [take_snoc ht, prs_append, h]; exact prs_one st t
theorem prs_stop {l : List Token} {k : Nat} (h : prs [] (l.take k) = none) : prs [] l = none := by
  rw [← List.take_append_drop k l, prs_append, h]; rfl
theorem prs_end {l : List Token} {k : Nat} {st : List Tr} (h : prs [] (l.take k) = some st) (hk : l.length ≤ k) : prs [] l = some st := by
  rwa [List.take_of_length_le hk] at h
theorem push_flat : ∀ (t : Tr) (st : List Tr) (l : List Token), Okd t → prs st (t.flat ++ l) = prs (t :: st) l
  | .l0 t, st, l, h => by simp only [Okd] at h; simp [Tr.flat, prs, push, h]
  | .l1 t a, st, l, h => by
    obtain ⟨h1, h2⟩ := h
    rw [Tr.flat, List.append_assoc, push_flat a st _ h2]
    simp [prs, push, h1]
  | .l2 t a b, st, l, h => by
    obtain ⟨h1, h2, h3⟩ := h
    rw [Tr.flat, List.append_assoc, List.append_assoc, push_flat a st _ h2, push_flat b _ _ h3]
    simp [prs, push, h1]
theorem treeL_flat {t : Tr} (h : Okd t) : treeL t.flat = some t := by
  have := push_flat t [] [] h
  rw [List.append_nil] at this
  unfold treeL; rw [this]; rfl
theorem push_ok {st st' : List Tr} {t : Token} (hs : ∀ x ∈ st, Okd x) (h : push st t = some st') : (∀ x ∈ st', Okd x) ∧ flatS st' = flatS st ++ [t] := by
  unfold push at h
  split at h
  · rename_i h0
    injection h with h; subst h
    refine ⟨fun x hx => ?_, by rw [flatS_cons]; rfl⟩
    rcases List.mem_cons.1 hx with rfl | hx
    · exact h0
    · exact hs x hx
  · split at h
    · rename_i h1
      split at h
      · rename_i a r
        injection h with h; subst h
        refine ⟨fun x hx => ?_, by rw [flatS_cons, flatS_cons, Tr.flat, List.append_assoc]⟩
        rcases List.mem_cons.1 hx with rfl | hx
        · exact ⟨h1, hs a (by simp)⟩
        · exact hs x (by simp [hx])
      · cases h
    · split at h
      · rename_i h2
        split at h
        · rename_i b a r
          injection h with h; subst h
          refine ⟨fun x hx => ?_, by simp [flatS_cons, Tr.flat]⟩
          rcases List.mem_cons.1 hx with rfl | hx
          · exact ⟨h2, hs a (by simp), hs b (by simp)⟩
          · exact hs x (by simp [hx])
        · cases h
      · cases h
theorem prs_ok : ∀ (l : List Token) (st st' : List Tr), (∀ x ∈ st, Okd x) → prs st l = some st' → (∀ x ∈ st', Okd x) ∧ flatS st' = flatS st ++ l
  | [], st, st', hs, h => by simp [prs] at h; subst h; simpa using hs
  | t :: l, st, st', hs, h => by
    simp only [prs] at h
    cases hp : push st t with
    | none => rw [hp] at h; cases h
    | some s1 =>
      rw [hp] at h
      obtain ⟨h1, h2⟩ := push_ok hs hp
      obtain ⟨h3, h4⟩ := prs_ok l s1 st' h1 h
      exact ⟨h3, by rw [h4, h2]; simp⟩
theorem treeL_ok {l : List Token} {t : Tr} (h : treeL l = some t) : Okd t ∧ t.flat = l := by
  unfold treeL at h
  split at h
  · rename_i s hs
    injection h with h; subst h
    obtain ⟨h1, h2⟩ := prs_ok l [] _ (by simp) hs
    exact ⟨h1 _ (by simp), by simpa [flatS] using h2⟩
  · cases h
theorem treeL_sz {l : List Token} {t : Tr} (h : treeL l = some t) : t.sz = l.length := by rw [← Tr.flat_len, (treeL_ok h).2]
theorem Okd.ar {t : Tr} (h : Okd t) : arT t.tok = t.kids.length := by
  cases t with
  | l0 t => exact h
  | l1 t a => exact h.1
  | l2 t a b => exact h.1
theorem Okd.kid {t k : Tr} {i : Nat} (h : Okd t) (hk : t.kids[i]? = some k) : Okd k := by
  cases t with
  | l0 t => simp [Tr.kids] at hk
  | l1 t a =>
    match i with
    | 0 => simp [Tr.kids] at hk; subst hk; exact h.2
    | i + 1 => simp [Tr.kids] at hk
  | l2 t a b =>
    match i with
    | 0 => simp [Tr.kids] at hk; subst hk; exact h.2.1
    | 1 => simp [Tr.kids] at hk; subst hk; exact h.2.2
    | i + 2 => simp [Tr.kids] at hk

def isE (l : List Token) : Bool := (treeL l).isSome
theorem isE_no {l : List Token} {k : Nat} {st : List Tr} {t : Token} (h : prs [] (l.take k) = some st) (ht : l[k]? = some t) (hp : push st t = none) : treeL l = none := by
  have h1 := prs_stop (k := k + 1) ((prs_snoc h ht).trans hp)
  unfold treeL; rw [h1]
theorem treeL_end {l : List Token} {k : Nat} {st : List Tr} (h : prs [] (l.take k) = some st) (hk : l.length ≤ k) : treeL l = match (motive := List Tr → Option Tr) st with | [t] => some t | _ => none := by
  have h1 := prs_end h hk
  unfold treeL; rw [h1]
  match st with
  | [] => rfl
  | [t] => rfl
  | a :: b :: r => rfl
theorem isE_end {l : List Token} {k : Nat} {st : List Tr} (h : prs [] (l.take k) = some st) (hk : l.length ≤ k) : isE l = decide ((st.length : Int) = 1) := by
  unfold isE; rw [treeL_end h hk]
  match st with
  | [] => rfl
  | [t] => rfl
  | a :: b :: r => simp; omega
theorem push_no {st : List Tr} {t : Token} (h : arT t < 0 ∨ (st.length : Int) < arT t) : push st t = none := by
  unfold push
  rcases arT_cases t with e | e | e | e <;> rw [e] at h ⊢
  · rfl
  · omega
  · match st with
    | [] => rfl
    | a :: r => simp at h; omega
  · match st with
    | [] => rfl
    | [a] => rfl
    | a :: b :: r => simp at h; omega
theorem push_yes {st : List Tr} {t : Token} (h0 : 0 ≤ arT t) (h : arT t ≤ (st.length : Int)) : ∃ st', push st t = some st' ∧ (st'.length : Int) = st.length - arT t + 1 := by
  unfold push
  rcases arT_cases t with e | e | e | e <;> rw [e] at h h0 ⊢ <;> simp at h h0 ⊢
  · match st with
    | [] => simp at h
    | a :: r => exact ⟨_, rfl, by simp⟩
  · match st with
    | [] => simp at h
    | [a] => simp at h
    | a :: b :: r => exact ⟨_, rfl, by simp; omega⟩
end Go.KLib
