/- A program logic over the model's code, part 1: what is known of a frame as a list of slots, the rules of the code's forms, regions in the text's order and regions that draw their order. It speaks of no program. -/
import Derived.WalkKit
import Derived.OrdersHeld
namespace Go.KLib

theorem bt_d {p : Prop} {_ : Decidable p} (h : decide p = true) : p := of_decide_eq_true h
theorem bf_d {p : Prop} {_ : Decidable p} (h : decide p = false) : ¬ p := of_decide_eq_false h
theorem bt_n {b : Bool} (h : (!b) = true) : b = false := by cases b <;> simp_all
theorem bf_n {b : Bool} (h : (!b) = false) : b = true := by cases b <;> simp_all
theorem bt_e {b c : Bool} (h : (b == c) = true) : b = c := by simpa using h
theorem bf_e {b c : Bool} (h : (b == c) = false) : ¬ b = c := by simpa using h

abbrev KL := List (Nat × Value)

def look : KL → Nat → Option Value
  | [], _ => none
  | p :: l, t => bif Nat.beq p.1 t then some p.2 else look l t

def ev (l : KL) : Operand → Option Value
  | .tmp t => look l t
  | .const v => some v
  | .global g => some (.pointer (some ⟨g, 0, none⟩))
  | .func f => some (.func (.func f) #[] #[])

structure Kn (N : Nat) (a : Act) (l : KL) : Prop where
  defers : a.defers = []
  size : a.tmps.size = N
  slot : ∀ t v, look l t = some v → a.tmps.getD t undef = v

theorem Kn.eval {N : Nat} {a : Act} {l : KL} (h : Kn N a l) {x : Operand} {v : Value} (hx : ev l x = some v) : a.eval x = v := by
  cases x with
  | tmp t => exact h.slot t v hx
  | const u => simpa [ev, Act.eval] using hx
  | global g => simpa [ev, Act.eval] using hx
  | func f => simpa [ev, Act.eval] using hx

theorem Kn.put {N : Nat} {a : Act} {l : KL} (h : Kn N a l) {d : Nat} (hd : d < N) (v : Value) : Kn N (a.put (some d) v) ((d, v) :: l) := by
  refine ⟨h.defers, by simp [Act.put, h.size], fun t u hu => ?_⟩
  have hdl : d < a.tmps.size := h.size ▸ hd
  simp only [look] at hu
  by_cases e : d = t
  · subst e
    simp at hu
    subst hu
    simp [Act.put, Array.getD_eq_getD_getElem?, hdl]
  · have e' : Nat.beq d t = false := Bool.eq_false_iff.2 (fun h => e (Nat.eq_of_beq_eq_true h))
    rw [e'] at hu
    have := h.slot t u hu
    simp only [Act.put, Array.getD_eq_getD_getElem?] at this ⊢
    rw [Array.getElem?_setIfInBounds_ne e]
    exact this

theorem Kn.put_none {N : Nat} {a : Act} {l : KL} (h : Kn N a l) (v : Value) : Kn N (a.put none v) l := h

def pu (l : KL) (d : Option Tmp) (v : Value) : KL :=
  match d with
  | some d => (d, v) :: l
  | none => l

def dOk (N : Nat) (d : Option Tmp) : Bool :=
  match d with
  | some d => Nat.blt d N
  | none => true

theorem Kn.pu {N : Nat} {a : Act} {l : KL} (h : Kn N a l) {d : Option Tmp} (hd : dOk N d = true) (v : Value) : Kn N (a.put d v) (pu l d v) := by
  cases d with
  | none => exact h
  | some d => exact h.put (by simpa [dOk, Nat.blt_eq] using hd) v

/-- What 'l' tells holds of 'l'' too. -/
def Sub (l l' : KL) : Prop := ∀ t v, look l t = some v → look l' t = some v
theorem Sub.refl (l : KL) : Sub l l := fun _ _ h => h
theorem Sub.nil (l : KL) : Sub [] l := fun _ _ h => by simp [look] at h
theorem Sub.cons {l l' : KL} {t : Nat} {v : Value} (h : look l' t = some v) (hs : Sub l l') : Sub ((t, v) :: l) l' := by
  intro u x hx
  simp only [look] at hx
  by_cases e : t = u
  · subst e
    simp at hx
    subst hx
    exact h
  · have e' : Nat.beq t u = false := Bool.eq_false_iff.2 (fun h => e (Nat.eq_of_beq_eq_true h))
    rw [e'] at hx
    exact hs u x hx
theorem Kn.sub {N : Nat} {a : Act} {l l' : KL} (h : Kn N a l') (hs : Sub l l') : Kn N a l := ⟨h.defers, h.size, fun t v hv => h.slot t v (hs t v hv)⟩

abbrev Po := Exit → KL → World → Prop

def up (N : Nat) (Q : Po) : Exit → Act → World → Prop
  | .panic _, _, _ => False
  | .outgrown, _, _ => False
  | e, a, w => ∃ l, Kn N a l ∧ Q e l w

def W (P : Program) (N : Nat) (c : Code) (Q : Po) (l : KL) (w : World) : Prop := ∀ a, Kn N a l → Code.wp P c (up N Q) a w

def thn (K : KL → World → Prop) (Q : Po) : Po
  | .normal, l, w => K l w
  | e, l, w => Q e l w

def inB (id : Nat) (Q : Po) : Po
  | .exit i, l, w => bif Nat.beq i id then Q .normal l w else Q (.exit i) l w
  | e, l, w => Q e l w

section rules
variable {P : Program} {N : Nat} {Q : Po} {l : KL} {w : World}

theorem W_sub {c : Code} {l' : KL} (hs : Sub l l') (h : W P N c Q l w) : W P N c Q l' w := fun a ha => h a (ha.sub hs)

theorem W_seq {x y : Code} (h : ∀ K : KL → World → Prop, (∀ l w, W P N y Q l w → K l w) → W P N x (thn K Q) l w) : W P N (.seq x y) Q l w := by
  intro a ha
  refine wp_seq (wp_mono (h (W P N y Q) (fun _ _ h => h) a ha) fun e a' w' he => ?_)
  cases e <;> simp only [up, thn, Exit.then] at he ⊢ <;> first | exact he | (obtain ⟨l', hl, hw⟩ := he; exact hw a' hl)

/-- With a condition between the two. -/
theorem W_seqM {x y : Code} (M : KL → World → Prop) (h1 : W P N x (thn M Q) l w) (h2 : ∀ l' w', M l' w' → W P N y Q l' w') : W P N (.seq x y) Q l w := by
  intro a ha
  refine wp_seq (wp_mono (h1 a ha) fun e a' w' he => ?_)
  cases e <;> simp only [up, thn, Exit.then] at he ⊢ <;> first | exact he | (obtain ⟨l', hl, hw⟩ := he; exact h2 l' w' hw a' hl)

theorem W_skip (h : Q .normal l w) : W P N .skip Q l w := fun _ ha => wp_skip ⟨l, ha, h⟩
theorem W_label {n : Nat} (h : Q .normal l w) : W P N (.label n) Q l w := fun _ ha => wp_label ⟨l, ha, h⟩
theorem W_ret (h : Q .ret l w) : W P N .ret Q l w := fun _ ha => wp_ret ⟨l, ha, h⟩
theorem W_exit {id : Nat} (h : Q (.exit id) l w) : W P N (.exit id) Q l w := fun _ ha => wp_exit ⟨l, ha, h⟩

theorem W_block {id : Nat} {c : Code} (h : W P N c (inB id Q) l w) : W P N (.block id c) Q l w := by
  intro a ha
  refine wp_block (wp_mono (h a ha) fun e a' w' he => ?_)
  cases e with
  | exit i =>
    obtain ⟨l', hl, hq⟩ := he
    simp only [Exit.inBlock]
    by_cases hi : i = id
    · subst hi
      simp [inB] at hq
      simpa using ⟨l', hl, hq⟩
    · have hi' : Nat.beq i id = false := Bool.eq_false_iff.2 (fun h => hi (Nat.eq_of_beq_eq_true h))
      simp only [inB, hi', cond_false] at hq
      rw [if_neg hi]
      exact ⟨l', hl, hq⟩
  | normal => exact he
  | goto n => exact he
  | ret => exact he
  | panic c => exact he
  | outgrown => exact he

theorem W_cond {c : Operand} {x y : Code} {b : Bool} (hc : ev l c = some (.bool b)) (ht : b = true → W P N x Q l w) (hf : b = false → W P N y Q l w) :
    W P N (.cond c x y) Q l w := fun a ha => wp_cond_split (ha.eval hc) (fun h => ht h a ha) (fun h => hf h a ha)
theorem W_condT {c : Operand} {x y : Code} (hc : ev l c = some (.bool true)) (ht : W P N x Q l w) : W P N (.cond c x y) Q l w := fun a ha => wp_cond_true (ha.eval hc) (ht a ha)
theorem W_condF {c : Operand} {x y : Code} (hc : ev l c = some (.bool false)) (hf : W P N y Q l w) : W P N (.cond c x y) Q l w := fun a ha => wp_cond_false (ha.eval hc) (hf a ha)

/-- A loop: 'σ' is what runs through its rounds; 'L s' what is known of the frame at a round's head, 'I s' of the world. -/
theorem W_loop {c : Code} {σ : Type} (L : σ → KL) (I : σ → World → Prop) (μ : σ → Nat) (s0 : σ) (hL : Sub (L s0) l) (h0 : I s0 w)
    (round : ∀ s w, I s w → W P N c (thn (fun l' w' => ∃ s', I s' w' ∧ Sub (L s') l' ∧ μ s' < μ s) Q) (L s) w) : W P N (.loop c) Q l w := by
  intro a ha b k cs
  have key : ∀ n s a w, μ s = n → I s w → Kn N a (L s) →
      ∃ e a' w', up N Q e a' w' ∧ Arrives P (lone (b.at a (.code c :: .inLoop c :: k)) cs w) b k cs e a' w' := by
    intro n
    induction n using Nat.strongRecOn with
    | _ n ih =>
      intro s a w hn hI hK
      obtain ⟨e, a₁, w₁, hq, harr⟩ := round s w hI a hK b (.inLoop c :: k) cs
      cases e with
      | normal =>
        obtain ⟨l₁, hl₁, s', hI', hs', hlt⟩ := hq
        obtain ⟨e₂, a₂, w₂, hq₂, harr₂⟩ := ih (μ s') (hn ▸ hlt) s' a₁ w₁ rfl hI' (hl₁.sub hs')
        exact ⟨e₂, a₂, w₂, hq₂, .of_steps (Steps.trans harr (.one step_inLoop)) harr₂⟩
      | exit id => exact ⟨.exit id, a₁, w₁, hq, .pass (x := .inLoop c) rfl (fun _ _ => .inl (by simp)) harr⟩
      | goto n => exact ⟨.goto n, a₁, w₁, hq, .pass (x := .inLoop c) rfl (fun _ _ => .inl (by simp)) harr⟩
      | ret => exact ⟨.ret, a₁, w₁, hq, .pass (x := .inLoop c) rfl (fun _ _ => .inl (by simp)) harr⟩
      | panic ch => exact hq.elim
      | outgrown => exact hq.elim
  obtain ⟨e, a', w', hq, harr⟩ := key _ s0 a w rfl h0 (ha.sub hL)
  exact ⟨e, a', w', hq, .of_steps (.one step_loop) harr⟩

/-! ### Operations -/

/-- With these values at its operands, operation 'o' yields 'v' and leaves the world 'w''. -/
def Runs (P : Program) (l : KL) (o : Oper) (w : World) (v : Value) (w' : World) : Prop :=
  ∀ ρ : Operand → Value, (∀ x u, ev l x = some u → ρ x = u) → (execOp ρ o).run P w = .ok (.value v) w'
/-- .. carries itself out without a value (a store). -/
def RunsU (P : Program) (l : KL) (o : Oper) (w : World) (w' : World) : Prop :=
  ∀ ρ : Operand → Value, (∀ x u, ev l x = some u → ρ x = u) → (execOp ρ o).run P w = .ok .skip w'
/-- .. enters function 'f'. -/
def RunsC (P : Program) (l : KL) (o : Oper) (w : World) (f : FuncId) (args : Array Value) : Prop :=
  ∀ ρ : Operand → Value, (∀ x u, ev l x = some u → ρ x = u) → (execOp ρ o).run P w = .ok (.enter f args) w

def yl (ops : Array Oper) (l : KL) (j : Nat) : Option (Option Bool) :=
  match (ops[j]?).bind (·.dst) with
  | none => some none
  | some d => match look l d with
    | some (.bool b) => some (some b)
    | some (.tuple _) => some none
    | _ => none

def wants (ops : Array Oper) (l : KL) (o : Oper) : Option Bool :=
  match o.guard with
  | none => some true
  | some (j, want) => match yl ops l j with
    | some (some b) => some (b == want)
    | some none => some false
    | none => none

theorem wants_spec {ops : Array Oper} {a : Act} {o : Oper} {b : Bool} (ha : Kn N a l) (h : wants ops l o = some b) : Region.wanted o (yielded ops a.tmps) = b := by
  unfold wants at h
  unfold Region.wanted
  cases hg : o.guard with
  | none => simp [hg] at h; simp [h]
  | some g =>
    obtain ⟨j, want⟩ := g
    simp only [hg] at h ⊢
    have key : ∀ r, yl ops l j = some r → yielded ops a.tmps j = r := by
      intro r hr
      unfold yl at hr
      unfold yielded
      cases hd : (ops[j]?).bind (·.dst) with
      | none => simp [hd] at hr; simp [← hr]
      | some d =>
        simp only [hd] at hr
        cases hl : look l d with
        | none => simp [hl] at hr
        | some v =>
          have hv := ha.slot d v hl
          rw [Array.getD_eq_getD_getElem?] at hv
          simp only [hl] at hr
          cases hs : a.tmps[d]? with
          | none =>
            rw [hs] at hv
            simp [undef] at hv
            subst hv
            simp at hr
            simp [hs, ← hr]
          | some u =>
            rw [hs] at hv
            simp at hv
            subst hv
            cases u <;> simp at hr <;> simp [hs, ← hr]
    cases hy : yl ops l j with
    | none => simp [hy] at h
    | some r =>
      rw [key r hy]
      cases r with
      | none => simp [hy] at h; simp [← h]
      | some c => simp [hy] at h; simp [← h]

/-- The operations of a region in the text's order. -/
def WL (P : Program) (N : Nat) (ops : Array Oper) (Q : Po) (rest : List Oper) (l : KL) (w : World) : Prop := ∀ a, Kn N a l → wpList P ops (up N Q) rest a w

variable {ops : Array Oper} {rest : List Oper} {o : Oper}

theorem W_region {id : Nat} {os : List Oper} (h : WL P N os.toArray Q os l w) : W P N (.region id os.toArray false) Q l w := fun a ha => wp_region_lit (h a ha)
theorem WL_nil (h : Q .normal l w) : WL P N ops Q [] l w := fun _ ha => wpList_nil ⟨l, ha, h⟩
theorem WL_sub {l' : KL} (hs : Sub l l') (h : WL P N ops Q rest l w) : WL P N ops Q rest l' w := fun a ha => h a (ha.sub hs)

theorem WL_step (hd : dOk N o.dst = true) (hg : wants ops l o = some true) {v : Value} {w' : World} (hr : Runs P l o w v w') (h : WL P N ops Q rest (pu l o.dst v) w') : WL P N ops Q (o :: rest) l w := by
  intro a ha
  refine wpList_step fun K hK => ?_
  rw [if_pos (wants_spec ha hg)]
  unfold Oper.wp
  rw [hr a.eval (fun x u hx => ha.eval hx)]
  exact hK _ _ (h _ (ha.pu hd v))

theorem WL_stepU (hd : dOk N o.dst = true) (hg : wants ops l o = some true) {w' : World} (hr : RunsU P l o w w') (h : WL P N ops Q rest (pu l o.dst undef) w') : WL P N ops Q (o :: rest) l w := by
  intro a ha
  refine wpList_step fun K hK => ?_
  rw [if_pos (wants_spec ha hg)]
  unfold Oper.wp
  rw [hr a.eval (fun x u hx => ha.eval hx)]
  exact hK _ _ (h _ (ha.pu hd undef))

theorem WL_skip (hd : dOk N o.dst = true) (hg : wants ops l o = some false) (h : WL P N ops Q rest (pu l o.dst undef) w) : WL P N ops Q (o :: rest) l w := by
  intro a ha
  refine wpList_step fun K hK => ?_
  rw [if_neg (by rw [wants_spec ha hg]; simp)]
  exact hK _ _ (h _ (ha.pu hd undef))

/-- A contract: function 'f', called so, returns a value of which 'R' holds. -/
def Ctr (P : Program) (f : FuncId) (args : Array Value) (w : World) (R : Value → World → Prop) : Prop :=
  Calls P f args w fun e w' => ∃ v, e = .returned v ∧ R v w'

theorem Ctr.mono {f : FuncId} {args : Array Value} {R R' : Value → World → Prop} (h : Ctr P f args w R) (hr : ∀ v w', R v w' → R' v w') : Ctr P f args w R' :=
  Calls.mono h fun _ _ ⟨v, he, hv⟩ => ⟨v, he, hr _ _ hv⟩

theorem WL_call (hd : dOk N o.dst = true) (hg : wants ops l o = some true) {f : FuncId} {args : Array Value} (hr : RunsC P l o w f args) {R : Value → World → Prop} (hc : Ctr P f args w R)
    (h : ∀ v w', R v w' → WL P N ops Q rest (pu l o.dst v) w') : WL P N ops Q (o :: rest) l w := by
  intro a ha
  refine wpList_step fun K hK => ?_
  rw [if_pos (wants_spec ha hg)]
  unfold Oper.wp
  rw [hr a.eval (fun x u hx => ha.eval hx)]
  refine Calls.mono hc fun e w' he => ?_
  obtain ⟨v, rfl, hv⟩ := he
  exact hK _ _ (h v w' hv _ (ha.pu hd v))

/-- Where a slot's truth value is not known: both ways. -/
theorem WL_split {d : Nat} {b : Bool} (hd : look l d = some (.bool b)) (ht : b = true → WL P N ops Q rest ((d, .bool true) :: l) w) (hf : b = false → WL P N ops Q rest ((d, .bool false) :: l) w) : WL P N ops Q rest l w := by
  cases b
  · exact WL_sub (Sub.cons hd (Sub.refl l)) (hf rfl)
  · exact WL_sub (Sub.cons hd (Sub.refl l)) (ht rfl)

/-! ### A region that draws its order -/

def DR (P : Program) (N : Nat) (ops : Array Oper) (Q : Po) (S : World → Prop) (fuel : Nat) (listed : Array Bool) (l : KL) (w : World) : Prop :=
  ∀ a, Kn N a l → S w → wpAnyH P .any ops (up N Q) S fuel listed a w

theorem DR_sub {S : World → Prop} {fuel : Nat} {listed : Array Bool} {l' : KL} (hs : Sub l l') (h : DR P N ops Q S fuel listed l w) : DR P N ops Q S fuel listed l' w := fun a ha => h a (ha.sub hs)

theorem W_draw {id : Nat} (S : World → Prop) (hm : P.follows .mixedOrders = true) (hS : S { w with drawn := w.drawn + 1 })
    (h : DR P N ops Q S ops.size (Array.replicate ops.size false) l { w with drawn := w.drawn + 1 }) : W P N (.region id ops true) Q l w :=
  fun a ha => wp_region_held (S := S) hm (h a ha hS)

def takeOk (ops : Array Oper) (listed : Array Bool) (i : Nat) : Bool := Region.noSelect ops && Region.free .any ops listed i && (Region.ready .any ops listed).contains i

theorem DR_take {S : World → Prop} {fuel : Nat} {listed : Array Bool} (i : Nat) (hi : ops[i]? = some o) (hk : takeOk ops listed i = true) (hd : dOk N o.dst = true) (hg : wants ops l o = some true) {v : Value}
    (hr : ∀ w, S w → Runs P l o w v w) (h : DR P N ops Q S fuel (listed.setIfInBounds i true) (pu l o.dst v) w) : DR P N ops Q S (fuel + 1) listed l w := by
  intro a ha hS
  simp only [takeOk, Bool.and_eq_true] at hk
  refine wpAnyH_take hi hk.1.1 hk.1.2 hk.2 (fun c a w hq => hq) (v := v) (.inl ⟨wants_spec ha hg, fun w hw => hr w hw a.eval (fun x u hx => ha.eval hx)⟩) hS ?_
  exact h _ (ha.pu hd v) hS

theorem DR_skip {S : World → Prop} {fuel : Nat} {listed : Array Bool} (i : Nat) (hi : ops[i]? = some o) (hk : takeOk ops listed i = true) (hd : dOk N o.dst = true) (hg : wants ops l o = some false)
    (h : DR P N ops Q S fuel (listed.setIfInBounds i true) (pu l o.dst undef) w) : DR P N ops Q S (fuel + 1) listed l w := by
  intro a ha hS
  simp only [takeOk, Bool.and_eq_true] at hk
  refine wpAnyH_take hi hk.1.1 hk.1.2 hk.2 (fun c a w hq => hq) (v := undef) (.inr ⟨wants_spec ha hg, rfl⟩) hS ?_
  exact h _ (ha.pu hd undef) hS

theorem DR_all {S : World → Prop} {fuel : Nat} {listed : Array Bool} {rs : List Nat} (hr : Region.ready .any ops listed = rs) (hne : rs ≠ [])
    (h : ∀ i ∈ rs, ∀ a, Kn N a l → S w → wpOp P ops (up N Q) i (fun a' w' => S w' ∧ wpAnyH P .any ops (up N Q) S fuel (listed.setIfInBounds i true) a' w') a w) : DR P N ops Q S (fuel + 1) listed l w :=
  fun a ha hS => wpAnyH_all hr hne fun i hi => h i hi a ha hS

/-- Operation 'i' comes up: what is to be shown of it. -/
def DO (P : Program) (N : Nat) (ops : Array Oper) (Q : Po) (S : World → Prop) (fuel : Nat) (listed : Array Bool) (i : Nat) (l : KL) (w : World) : Prop :=
  ∀ a, Kn N a l → S w → wpOp P ops (up N Q) i (fun a' w' => S w' ∧ wpAnyH P .any ops (up N Q) S fuel (listed.setIfInBounds i true) a' w') a w

theorem DR_one {S : World → Prop} {fuel : Nat} {listed : Array Bool} (i : Nat) (hr : Region.ready .any ops listed = [i]) (h : DO P N ops Q S fuel listed i l w) : DR P N ops Q S (fuel + 1) listed l w :=
  DR_all hr (by simp) (by intro k hk; rw [List.mem_singleton.1 hk]; exact h)
theorem DR_two {S : World → Prop} {fuel : Nat} {listed : Array Bool} (i j : Nat) (hr : Region.ready .any ops listed = [i, j]) (h1 : DO P N ops Q S fuel listed i l w) (h2 : DO P N ops Q S fuel listed j l w) : DR P N ops Q S (fuel + 1) listed l w :=
  DR_all hr (by simp) (by intro k hk; rcases List.mem_cons.1 hk with rfl | hk; exact h1; rw [List.mem_singleton.1 hk]; exact h2)

theorem DO_step {S : World → Prop} {fuel : Nat} {listed : Array Bool} {i : Nat} (hi : ops[i]? = some o) (hd : dOk N o.dst = true) (hg : wants ops l o = some true) {v : Value} {w' : World}
    (hr : Runs P l o w v w') (hS' : S w') (h : DR P N ops Q S fuel (listed.setIfInBounds i true) (pu l o.dst v) w') : DO P N ops Q S fuel listed i l w := by
  intro a ha _
  unfold wpOp
  simp only [hi]
  rw [if_pos (wants_spec ha hg)]
  refine .inl ?_
  unfold Oper.wp
  rw [hr a.eval (fun x u hx => ha.eval hx)]
  exact ⟨hS', h _ (ha.pu hd v) hS'⟩

theorem DO_stepU {S : World → Prop} {fuel : Nat} {listed : Array Bool} {i : Nat} (hi : ops[i]? = some o) (hd : dOk N o.dst = true) (hg : wants ops l o = some true) {w' : World}
    (hr : RunsU P l o w w') (hS' : S w') (h : DR P N ops Q S fuel (listed.setIfInBounds i true) (pu l o.dst undef) w') : DO P N ops Q S fuel listed i l w := by
  intro a ha _
  unfold wpOp
  simp only [hi]
  rw [if_pos (wants_spec ha hg)]
  refine .inl ?_
  unfold Oper.wp
  rw [hr a.eval (fun x u hx => ha.eval hx)]
  exact ⟨hS', h _ (ha.pu hd undef) hS'⟩

theorem DO_skip {S : World → Prop} {fuel : Nat} {listed : Array Bool} {i : Nat} (hi : ops[i]? = some o) (hd : dOk N o.dst = true) (hg : wants ops l o = some false)
    (h : DR P N ops Q S fuel (listed.setIfInBounds i true) (pu l o.dst undef) w) : DO P N ops Q S fuel listed i l w := by
  intro a ha hS
  unfold wpOp
  simp only [hi]
  rw [if_neg (by rw [wants_spec ha hg]; simp)]
  exact ⟨hS, h _ (ha.pu hd undef) hS⟩

theorem DO_call {S : World → Prop} {fuel : Nat} {listed : Array Bool} {i : Nat} (hi : ops[i]? = some o) (hd : dOk N o.dst = true) (hg : wants ops l o = some true) {f : FuncId} {args : Array Value} (hr : RunsC P l o w f args)
    {R : Value → World → Prop} (hc : Ctr P f args w R) (h : ∀ v w', R v w' → S w' ∧ DR P N ops Q S fuel (listed.setIfInBounds i true) (pu l o.dst v) w') : DO P N ops Q S fuel listed i l w := by
  intro a ha _
  unfold wpOp
  simp only [hi]
  rw [if_pos (wants_spec ha hg)]
  refine .inl ?_
  unfold Oper.wp
  rw [hr a.eval (fun x u hx => ha.eval hx)]
  refine Calls.mono hc fun e w' he => ?_
  obtain ⟨v, rfl, hv⟩ := he
  obtain ⟨hS', hd'⟩ := h v w' hv
  exact ⟨hS', hd' _ (ha.pu hd v) hS'⟩

theorem DR_split {S : World → Prop} {fuel : Nat} {listed : Array Bool} {d : Nat} {b : Bool} (hd : look l d = some (.bool b)) (ht : b = true → DR P N ops Q S fuel listed ((d, .bool true) :: l) w)
    (hf : b = false → DR P N ops Q S fuel listed ((d, .bool false) :: l) w) : DR P N ops Q S fuel listed l w := by
  cases b
  · exact DR_sub (Sub.cons hd (Sub.refl l)) (hf rfl)
  · exact DR_sub (Sub.cons hd (Sub.refl l)) (ht rfl)

theorem DR_done {S : World → Prop} {fuel : Nat} {listed : Array Bool} (hr : Region.ready .any ops listed = []) (h : Q .normal l w) : DR P N ops Q S fuel listed l w :=
  fun _ ha _ => wpAnyH_done hr ⟨l, ha, h⟩ fuel

/-! ### A whole function -/

/-- The value that the result slots tell; a result in memory is read there. -/
def resOf (P : Program) (l : KL) (w : World) : List ResultVar → List Value → Prop
  | [], [] => True
  | .tmp t :: rs, v :: vs => look l t = some v ∧ resOf P l w rs vs
  | .cell t ty :: rs, v :: vs => (∃ a, look l t = some (.pointer (some a)) ∧ (loadVar ty a).run P w = .ok v w) ∧ resOf P l w rs vs
  | _, _ => False

def packed (vs : List Value) : Value := match vs with | [v] => v | vs => .tuple vs.toArray

def resF (a : Act) : ResultVar → Sem Value
  | .tmp t => pure (a.tmps.getD t undef)
  | .cell x t => do loadVar t (← asAddr (a.tmps.getD x undef))

theorem results_eq (fn : Func) (a : Act) : results fn a.tmps = (fn.results.mapM (resF a) >>= fun vs => pure (if h : vs.size = 1 then vs[0] else .tuple vs)) := by
  unfold results
  congr 1

theorem results_run {a : Act} (ha : Kn N a l) (fn : Func) {vs : List Value} (h : resOf P l w fn.results.toList vs) : (results fn a.tmps).run P w = .ok (packed vs) w := by
  have key : ∀ (rs : List ResultVar) (vs : List Value), resOf P l w rs vs → (rs.mapM (resF a)).run P w = .ok vs w := by
    intro rs
    induction rs with
    | nil => intro vs h; cases vs <;> simp [resOf] at h ⊢
    | cons r rs ih =>
      intro vs h
      cases vs with
      | nil => cases r <;> simp [resOf] at h
      | cons v vs =>
        have hv : (resF a r).run P w = .ok v w ∧ resOf P l w rs vs := by
          cases r with
          | tmp t =>
            obtain ⟨h1, h2⟩ := h
            exact ⟨by simp only [resF, ha.slot t v h1]; rfl, h2⟩
          | cell t ty =>
            obtain ⟨⟨p, h1, h3⟩, h2⟩ := h
            refine ⟨?_, h2⟩
            have hA : (asAddr (a.tmps.getD t undef)).run P w = .ok p w := by rw [ha.slot t _ h1]; rfl
            simp only [resF, Sem.run_bind, hA, Result.andThen_ok, h3]
        simp only [List.mapM_cons, Sem.run_bind, Sem.run_pure, Result.andThen_ok, hv.1, ih vs hv.2]
  have h1 := key _ _ h
  have h2 : (fn.results.mapM (resF a)).run P w = .ok vs.toArray w := by
    rw [← Array.toArray_toList (xs := fn.results), List.mapM_toArray]
    simp only [Sem.run_map, h1, Result.andThen_ok]
  rw [results_eq, Sem.run_bind, h2]
  show Result.ok _ w = Result.ok _ w
  congr 1
  match vs with
  | [] => simp [packed]
  | [v] => simp [packed]
  | v :: u :: vs => simp [packed]

def retP (P : Program) (rs : List ResultVar) (R : Value → World → Prop) : Po
  | .normal, l, w | .ret, l, w => ∃ vs, resOf P l w rs vs ∧ R (packed vs) w
  | _, _, _ => False

def argsK : Nat → List Value → KL
  | _, [] => []
  | i, v :: vs => (i, v) :: argsK (i + 1) vs

theorem look_argsK : ∀ (vs : List Value) (i t : Nat) (v : Value), look (argsK i vs) t = some v → i ≤ t ∧ vs[t - i]? = some v := by
  intro vs
  induction vs with
  | nil => intro i t v h; simp [argsK, look] at h
  | cons x vs ih =>
    intro i t v h
    simp only [argsK, look] at h
    by_cases e : i = t
    · subst e; simp at h; simp [h]
    · have e' : Nat.beq i t = false := Bool.eq_false_iff.2 (fun h => e (Nat.eq_of_beq_eq_true h))
      rw [e'] at h
      obtain ⟨h1, h2⟩ := ih (i + 1) t v h
      refine ⟨by omega, ?_⟩
      rw [show t - i = (t - (i + 1)) + 1 from by omega]
      simpa using h2

/-- A function's contract out of a walk of its body. -/
theorem Ctr_of_W {f : FuncId} {fn : Func} {c : Code} {vs0 : List Value} {R : Value → World → Prop} (hf : P.funcs[f]? = some fn) (hb : fn.body = some c) (hn : fn.ntmps = N) (hle : Nat.ble vs0.length N = true)
    (h : W P N c (retP P fn.results.toList R) (argsK 0 vs0) w) : Ctr P f vs0.toArray w R := by
  refine calls_of_wp hf hb (wp_mono (h _ ⟨rfl, ?_, fun t v hv => ?_⟩) fun e a w' he => ?_)
  · have := Nat.le_of_ble_eq_true hle
    simp [hn]; omega
  · obtain ⟨_, h2⟩ := look_argsK vs0 0 t v hv
    simp only [Nat.sub_zero] at h2
    rw [Array.getD_eq_getD_getElem?, Array.getElem?_append_left (by have := (List.getElem?_eq_some_iff.1 h2).1; simpa using this)]
    simp [h2]
  · cases e with
    | normal =>
      obtain ⟨l', hl, vs, hr, hR⟩ := he
      exact ⟨hl.defers, _, results_run hl fn hr, _, rfl, hR⟩
    | ret =>
      obtain ⟨l', hl, vs, hr, hR⟩ := he
      exact ⟨hl.defers, _, results_run hl fn hr, _, rfl, hR⟩
    | exit id => obtain ⟨_, _, h⟩ := he; exact h.elim
    | goto n => obtain ⟨_, _, h⟩ := he; exact h.elim
    | panic ch => exact he.elim
    | outgrown => exact he.elim

theorem thn_ret {K : KL → World → Prop} (h : Q .ret l w) : thn K Q .ret l w := h
theorem inB_ret {id : Nat} (h : Q .ret l w) : inB id Q .ret l w := h
theorem thn_exit {K : KL → World → Prop} {i : Nat} (h : Q (.exit i) l w) : thn K Q (.exit i) l w := h
theorem inB_hit {i : Nat} (h : Q .normal l w) : inB i Q (.exit i) l w := by
  show (bif Nat.beq i i then Q .normal l w else Q (.exit i) l w)
  rw [Nat.beq_refl]
  exact h
theorem inB_miss {i id : Nat} (hn : Nat.beq i id = false) (h : Q (.exit i) l w) : inB id Q (.exit i) l w := by
  show (bif Nat.beq i id then Q .normal l w else Q (.exit i) l w)
  rw [hn]
  exact h
theorem thn_nrm {K : KL → World → Prop} (h : K l w) : thn K Q .normal l w := h
theorem inB_nrm {id : Nat} (h : Q .normal l w) : inB id Q .normal l w := h
theorem ret_intro {rs : List ResultVar} {R : Value → World → Prop} (vs : List Value) (hr : resOf P l w rs vs) (hR : R (packed vs) w) : retP P rs R .ret l w := ⟨vs, hr, hR⟩
theorem end_intro {rs : List ResultVar} {R : Value → World → Prop} (vs : List Value) (hr : resOf P l w rs vs) (hR : R (packed vs) w) : retP P rs R .normal l w := ⟨vs, hr, hR⟩

/-! ### One operation, whatever it is -/
/-- Operation 'o' carries itself out, and of its value and the world behind it 'K' holds. -/
def Step (P : Program) (l : KL) (o : Oper) (w : World) (K : Value → World → Prop) : Prop :=
  ∀ (a : Act) (K' : Act → World → Prop) (Q' : Exit → Act → World → Prop), (∀ x u, ev l x = some u → a.eval x = u) → (∀ v w', K v w' → K' (a.put o.dst v) w') → o.wp P a w K' Q'

theorem Step.of {v : Value} {w' : World} {K : Value → World → Prop} (hr : Runs P l o w v w') (h : K v w') : Step P l o w K := by
  intro a K' Q' ha hK
  unfold Oper.wp
  rw [hr a.eval ha]
  exact hK v w' h
theorem Step.ofU {w' : World} {K : Value → World → Prop} (hr : RunsU P l o w w') (h : K undef w') : Step P l o w K := by
  intro a K' Q' ha hK
  unfold Oper.wp
  rw [hr a.eval ha]
  exact hK undef w' h
theorem Step.call {f : FuncId} {args : Array Value} {K R : Value → World → Prop} (hr : RunsC P l o w f args) (hc : Ctr P f args w R) (h : ∀ v w', R v w' → K v w') : Step P l o w K := by
  intro a K' Q' ha hK
  unfold Oper.wp
  rw [hr a.eval ha]
  refine Calls.mono hc fun e w' he => ?_
  obtain ⟨v, rfl, hv⟩ := he
  exact hK v w' (h v w' hv)

theorem WL_s (hd : dOk N o.dst = true) (hg : wants ops l o = some true) (h : Step P l o w fun v w' => WL P N ops Q rest (pu l o.dst v) w') : WL P N ops Q (o :: rest) l w := by
  intro a ha
  refine wpList_step fun K hK => ?_
  rw [if_pos (wants_spec ha hg)]
  exact h a K _ (fun x u hx => ha.eval hx) fun v w' hw => hK _ _ (hw _ (ha.pu hd v))

theorem DO_s {S : World → Prop} {fuel : Nat} {listed : Array Bool} {i : Nat} (hi : ops[i]? = some o) (hd : dOk N o.dst = true) (hg : wants ops l o = some true)
    (h : Step P l o w fun v w' => S w' ∧ DR P N ops Q S fuel (listed.setIfInBounds i true) (pu l o.dst v) w') : DO P N ops Q S fuel listed i l w := by
  intro a ha _
  unfold wpOp
  simp only [hi]
  rw [if_pos (wants_spec ha hg)]
  exact .inl (h a _ _ (fun x u hx => ha.eval hx) fun v w' hw => ⟨hw.1, hw.2 _ (ha.pu hd v) hw.1⟩)

/-- Operation 'o' yields one and the same value in every world of 'S', and 'G' holds of it. -/
def Tk (P : Program) (S : World → Prop) (l : KL) (o : Oper) (G : Value → Prop) : Prop := ∃ v, (∀ w, S w → Runs P l o w v w) ∧ G v
theorem Tk.of {S : World → Prop} {v : Value} {G : Value → Prop} (h : ∀ w, S w → Runs P l o w v w) (hG : G v) : Tk P S l o G := ⟨v, h, hG⟩
theorem DR_s {S : World → Prop} {fuel : Nat} {listed : Array Bool} (i : Nat) (hi : ops[i]? = some o) (hk : takeOk ops listed i = true) (hd : dOk N o.dst = true) (hg : wants ops l o = some true)
    (h : Tk P S l o fun v => DR P N ops Q S fuel (listed.setIfInBounds i true) (pu l o.dst v) w) : DR P N ops Q S (fuel + 1) listed l w :=
  let ⟨_, hr, h⟩ := h
  DR_take i hi hk hd hg hr h

end rules
end Go.KLib
