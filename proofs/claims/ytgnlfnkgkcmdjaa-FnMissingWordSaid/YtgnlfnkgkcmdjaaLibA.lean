/- The library of this proof: a logic of the code's forms, memory, data, and plain laws. It speaks of no program. -/
import Derived.WalkKit
import Derived.OrdersHeld
import Derived.WalkLawsBesides
import Derived.WalkSpells
import Derived.ProofKit
import Derived.Deep.Slices
import Derived.Deep.Fields
import Derived.Lib.SmallJoins
import Derived.Laws.Append
import Derived.Laws.CopyRow
import Derived.Laws.AppendOwn
import Derived.Laws.Small
import Derived.Shelf.Sort.Plain
import Derived.Shelf.Slices.CompactI
import Derived.Shelf.Slices.Delete
import Derived.Ground.NamesProg
import Derived.Ground.Names2Prog
import Derived.Shelf.Lay
import Derived.Shelf.Slices.In.SortNone
import Derived.MapKept
import Derived.Ground.SlsfProg
import Derived.Shelf.SlSortCmp.NoneTotal
import Derived.Laws.BytesString
import Derived.Laws.Strings2
import Derived.Laws.Concat

namespace Go.KLib
theorem Yo {p : Prop} {_ : Decidable p} (h : decide p = true) : p := of_decide_eq_true h
theorem Yp {p : Prop} {_ : Decidable p} (h : decide p = false) : ¬ p := of_decide_eq_false h
theorem Qf {b : Bool} (h : (!b) = true) : b = false := by cases b <;> simp_all
theorem Qg {b : Bool} (h : (!b) = false) : b = true := by cases b <;> simp_all
theorem bt_e {b c : Bool} (h : (b == c) = true) : b = c := by simpa using h
theorem bf_e {b c : Bool} (h : (b == c) = false) : ¬ b = c := by simpa using h
abbrev KL := List (Nat × Value)
def look : KL → Nat → Option Value
 | [], _ => none
 | p :: l, t => bif Nat.beq p.1 t then some p.2 else look l t
def ev (l : KL) : Operand → Option Value
 | .tmp t => look l t
 | .const v => some v
 | .global g => some (.pointer (some ⟨g, 0, none⟩))
 | .func f => some (.func (.func f) #[] #[])
structure Kn (N : Nat) (a : Act) (l : KL) : Prop where
 defers : a.defers = []
 size : a.tmps.size = N
 slot : ∀ t v, look l t = some v → a.tmps.getD t undef = v
theorem Kn.eval {N : Nat} {a : Act} {l : KL} (h : Kn N a l) {x : Operand} {v : Value} (hx : ev l x = some v) : a.eval x = v := by
 cases x with
 | tmp t => exact h.slot t v hx
 | const u => simpa [ev, Act.eval] using hx
 | global g => simpa [ev, Act.eval] using hx
 | func f => simpa [ev, Act.eval] using hx
theorem Kn.put {N : Nat} {a : Act} {l : KL} (h : Kn N a l) {d : Nat} (hd : d < N) (v : Value) : Kn N (a.put (some d) v) ((d, v) :: l) := by
 refine ⟨h.defers, by simp [Act.put, h.size], fun t u hu => ?_⟩
 have hdl : d < a.tmps.size := h.size ▸ hd
 simp only [look] at hu
 by_cases e : d = t
 ·subst e
  simp at hu
  subst hu
  simp [Act.put, Array.getD_eq_getD_getElem?, hdl]
 have e' : Nat.beq d t = false := Bool.eq_false_iff.2 (fun h => e (Nat.eq_of_beq_eq_true h))
 rw [e'] at hu
 have := h.slot t u hu
 simp only [Act.put, Array.getD_eq_getD_getElem?] at this ⊢
 rw [Array.getElem?_setIfInBounds_ne e]
 exact this
def pu (l : KL) (d : Option Tmp) (v : Value) : KL :=
 match d with
 | some d => (d, v) :: l
 | none => l
def dOk (N : Nat) (d : Option Tmp) : Bool :=
 match d with
 | some d => Nat.blt d N
 | none => true
theorem Kn.pu {N : Nat} {a : Act} {l : KL} (h : Kn N a l) {d : Option Tmp} (hd : dOk N d = true) (v : Value) : Kn N (a.put d v) (pu l d v) := by
 cases d with
 | none => exact h
 | some d => exact h.put (by simpa [dOk, Nat.blt_eq] using hd) v
def Sub (l l' : KL) : Prop := ∀ t v, look l t = some v → look l' t = some v
theorem Sub.refl (l : KL) : Sub l l := fun _ _ h => h
theorem Sub.nil (l : KL) : Sub [] l := fun _ _ h => by simp [look] at h
theorem Sub.cons {l l' : KL} {t : Nat} {v : Value} (h : look l' t = some v) (hs : Sub l l') : Sub ((t, v) :: l) l' := by
 intro u x hx
 simp only [look] at hx
 by_cases e : t = u
 ·subst e
  simp at hx
  subst hx
  exact h
 have e' : Nat.beq t u = false := Bool.eq_false_iff.2 (fun h => e (Nat.eq_of_beq_eq_true h))
 rw [e'] at hx
 exact hs u x hx
theorem Kn.sub {N : Nat} {a : Act} {l l' : KL} (h : Kn N a l') (hs : Sub l l') : Kn N a l := ⟨h.defers, h.size, fun t v hv => h.slot t v (hs t v hv)⟩
abbrev Po := Exit → KL → World → Prop
def up (N : Nat) (Q : Po) : Exit → Act → World → Prop
 | .panic _, _, _ => False
 | .outgrown, _, _ => False
 | e, a, w => ∃ l, Kn N a l ∧ Q e l w
def W (P : Program) (N : Nat) (c : Code) (Q : Po) (l : KL) (w : World) : Prop := ∀ a, Kn N a l → Code.wp P c (up N Q) a w
def thn (K : KL → World → Prop) (Q : Po) : Po
 | .normal, l, w => K l w
 | e, l, w => Q e l w
def inB (id : Nat) (Q : Po) : Po
 | .exit i, l, w => bif Nat.beq i id then Q .normal l w else Q (.exit i) l w
 | e, l, w => Q e l w
section rules
variable {P : Program} {N : Nat} {Q : Po} {l : KL} {w : World}
theorem Zon {c : Code} {l' : KL} (hs : Sub l l') (h : W P N c Q l w) : W P N c Q l' w := fun a ha => h a (ha.sub hs)
theorem Zg {x y : Code} (h : ∀ K : KL → World → Prop, (∀ l w, W P N y Q l w → K l w) → W P N x (thn K Q) l w) : W P N (.seq x y) Q l w := by
 intro a ha
 refine wp_seq (wp_mono (h (W P N y Q) (fun _ _ h => h) a ha) fun e a' w' he => ?_)
 cases e <;> simp only [up, thn, Exit.then] at he ⊢ <;> first | exact he | (obtain ⟨l', hl, hw⟩ := he; exact hw a' hl)
theorem Zu (h : Q .normal l w) : W P N .skip Q l w := fun _ ha => wp_skip ⟨l, ha, h⟩
theorem Zs (h : Q .ret l w) : W P N .ret Q l w := fun _ ha => wp_ret ⟨l, ha, h⟩
theorem Xk {id : Nat} (h : Q (.exit id) l w) : W P N (.exit id) Q l w := fun _ ha => wp_exit ⟨l, ha, h⟩
theorem Yf {id : Nat} {c : Code} (h : W P N c (inB id Q) l w) : W P N (.block id c) Q l w := by
 intro a ha
 refine wp_block (wp_mono (h a ha) fun e a' w' he => ?_)
 cases e with
 | exit i =>
  obtain ⟨l', hl, hq⟩ := he
  simp only [Exit.inBlock]
  by_cases hi : i = id
  ·subst hi
   simp [inB] at hq
   simpa using ⟨l', hl, hq⟩
  have hi' : Nat.beq i id = false := Bool.eq_false_iff.2 (fun h => hi (Nat.eq_of_beq_eq_true h))
  simp only [inB, hi', cond_false] at hq
  rw [if_neg hi]
  exact ⟨l', hl, hq⟩
 | normal => exact he
 | goto n => exact he
 | ret => exact he
 | panic c => exact he
 | outgrown => exact he
theorem Zx {c : Operand} {x y : Code} {b : Bool} (hc : ev l c = some (.bool b)) (ht : b = true → W P N x Q l w) (hf : b = false → W P N y Q l w) :
 W P N (.cond c x y) Q l w := fun a ha => wp_cond_split (ha.eval hc) (fun h => ht h a ha) (fun h => hf h a ha)
theorem Xl {c : Operand} {x y : Code} (hc : ev l c = some (.bool true)) (ht : W P N x Q l w) : W P N (.cond c x y) Q l w := fun a ha => wp_cond_true (ha.eval hc) (ht a ha)
theorem Xn {c : Operand} {x y : Code} (hc : ev l c = some (.bool false)) (hf : W P N y Q l w) : W P N (.cond c x y) Q l w := fun a ha => wp_cond_false (ha.eval hc) (hf a ha)
theorem Xo {c : Code} {σ : Type} (L : σ → KL) (I : σ → World → Prop) (μ : σ → Nat) (s0 : σ) (hL : Sub (L s0) l) (h0 : I s0 w)
    (round : ∀ s w, I s w → W P N c (thn (fun l' w' => ∃ s', I s' w' ∧ Sub (L s') l' ∧ μ s' < μ s) Q) (L s) w) : W P N (.loop c) Q l w := by
  intro a ha b k cs
  have key : ∀ n s a w, μ s = n → I s w → Kn N a (L s) →
      ∃ e a' w', up N Q e a' w' ∧ Arrives P (lone (b.at a (.code c :: .inLoop c :: k)) cs w) b k cs e a' w' := by
    intro n
    induction n using Nat.strongRecOn with
    | _ n ih =>
      intro s a w hn hI hK
      obtain ⟨e, a₁, w₁, hq, harr⟩ := round s w hI a hK b (.inLoop c :: k) cs
      cases e with
      | normal =>
        obtain ⟨l₁, hl₁, s', hI', hs', hlt⟩ := hq
        obtain ⟨e₂, a₂, w₂, hq₂, harr₂⟩ := ih (μ s') (hn ▸ hlt) s' a₁ w₁ rfl hI' (hl₁.sub hs')
        exact ⟨e₂, a₂, w₂, hq₂, .of_steps (Steps.trans harr (.one step_inLoop)) harr₂⟩
      | exit id => exact ⟨.exit id, a₁, w₁, hq, .pass (x := .inLoop c) rfl (fun _ _ => .inl (by simp)) harr⟩
      | goto n => exact ⟨.goto n, a₁, w₁, hq, .pass (x := .inLoop c) rfl (fun _ _ => .inl (by simp)) harr⟩
      | ret => exact ⟨.ret, a₁, w₁, hq, .pass (x := .inLoop c) rfl (fun _ _ => .inl (by simp)) harr⟩
      | panic ch => exact hq.elim
      | outgrown => exact hq.elim
  obtain ⟨e, a', w', hq, harr⟩ := key _ s0 a w rfl h0 (ha.sub hL)
  exact ⟨e, a', w', hq, .of_steps (.one step_loop) harr⟩
def Qu (P : Program) (l : KL) (o : Oper) (w : World) (v : Value) (w' : World) : Prop :=
 ∀ ρ : Operand → Value, (∀ x u, ev l x = some u → ρ x = u) → (execOp ρ o).run P w = .ok (.value v) w'
def Zrf (P : Program) (l : KL) (o : Oper) (w : World) (w' : World) : Prop :=
 ∀ ρ : Operand → Value, (∀ x u, ev l x = some u → ρ x = u) → (execOp ρ o).run P w = .ok .skip w'
def Ztv (P : Program) (l : KL) (o : Oper) (w : World) (f : FuncId) (args : Array Value) : Prop :=
 ∀ ρ : Operand → Value, (∀ x u, ev l x = some u → ρ x = u) → (execOp ρ o).run P w = .ok (.enter f args) w
def yl (ops : Array Oper) (l : KL) (j : Nat) : Option (Option Bool) :=
 match (ops[j]?).bind (·.dst) with
 | none => some none
 | some d => match look l d with
  | some (.bool b) => some (some b)
  | some (.tuple _) => some none
  | _ => none
def Zgv (ops : Array Oper) (l : KL) (o : Oper) : Option Bool :=
 match o.guard with
 | none => some true
 | some (j, want) => match yl ops l j with
  | some (some b) => some (b == want)
  | some none => some false
  | none => none
theorem Zbw {ops : Array Oper} {a : Act} {o : Oper} {b : Bool} (ha : Kn N a l) (h : Zgv ops l o = some b) : Region.wanted o (yielded ops a.tmps) = b := by
 unfold Zgv at h
 unfold Region.wanted
 cases hg : o.guard with
 | none => simp [hg] at h; simp [h]
 | some g =>
  obtain ⟨j, want⟩ := g
  simp only [hg] at h ⊢
  have key : ∀ r, yl ops l j = some r → yielded ops a.tmps j = r := by
   intro r hr
   unfold yl at hr
   unfold yielded
   cases hd : (ops[j]?).bind (·.dst) with
   | none => simp [hd] at hr; simp [← hr]
   | some d =>
    simp only [hd] at hr
    cases hl : look l d with
    | none => simp [hl] at hr
    | some v =>
     have hv := ha.slot d v hl
     rw [Array.getD_eq_getD_getElem?] at hv
     simp only [hl] at hr
     cases hs : a.tmps[d]? with
     | none =>
      rw [hs] at hv
      simp [undef] at hv
      subst hv
      simp at hr
      simp [hs, ← hr]
     | some u =>
      rw [hs] at hv
      simp at hv
      subst hv
      cases u <;> simp at hr <;> simp [hs, ← hr]
  cases hy : yl ops l j with
  | none => simp [hy] at h
  | some r =>
   rw [key r hy]
   cases r with
   | none => simp [hy] at h; simp [← h]
   | some c => simp [hy] at h; simp [← h]
def WL (P : Program) (N : Nat) (ops : Array Oper) (Q : Po) (rest : List Oper) (l : KL) (w : World) : Prop := ∀ a, Kn N a l → wpList P ops (up N Q) rest a w
variable {ops : Array Oper} {rest : List Oper} {o : Oper}
theorem Zc {id : Nat} {os : List Oper} (h : WL P N os.toArray Q os l w) : W P N (.region id os.toArray false) Q l w := fun a ha => wp_region_lit (h a ha)
theorem Zf (h : Q .normal l w) : WL P N ops Q [] l w := fun _ ha => wpList_nil ⟨l, ha, h⟩
theorem Zmr {l' : KL} (hs : Sub l l') (h : WL P N ops Q rest l w) : WL P N ops Q rest l' w := fun a ha => h a (ha.sub hs)
theorem Za (hd : dOk N o.dst = true) (hg : Zgv ops l o = some true) {v : Value} {w' : World} (hr : Qu P l o w v w') (h : WL P N ops Q rest (pu l o.dst v) w') : WL P N ops Q (o :: rest) l w := by
 intro a ha
 refine wpList_step fun K hK => ?_
 rw [if_pos (Zbw ha hg)]
 unfold Oper.wp
 rw [hr a.eval (fun x u hx => ha.eval hx)]
 exact hK _ _ (h _ (ha.pu hd v))
theorem Zj (hd : dOk N o.dst = true) (hg : Zgv ops l o = some false) (h : WL P N ops Q rest (pu l o.dst undef) w) : WL P N ops Q (o :: rest) l w := by
 intro a ha
 refine wpList_step fun K hK => ?_
 rw [if_neg (by rw [Zbw ha hg]; simp)]
 exact hK _ _ (h _ (ha.pu hd undef))
def Ctr (P : Program) (f : FuncId) (args : Array Value) (w : World) (R : Value → World → Prop) : Prop :=
 Calls P f args w fun e w' => ∃ v, e = .returned v ∧ R v w'
theorem Ctr.mono {f : FuncId} {args : Array Value} {R R' : Value → World → Prop} (h : Ctr P f args w R) (hr : ∀ v w', R v w' → R' v w') : Ctr P f args w R' :=
 Calls.mono h fun _ _ ⟨v, he, hv⟩ => ⟨v, he, hr _ _ hv⟩
theorem Ym {d : Nat} {b : Bool} (hd : look l d = some (.bool b)) (ht : b = true → WL P N ops Q rest ((d, .bool true) :: l) w) (hf : b = false → WL P N ops Q rest ((d, .bool false) :: l) w) : WL P N ops Q rest l w := by
 cases b
 ·exact Zmr (Sub.cons hd (Sub.refl l)) (hf rfl)
 exact Zmr (Sub.cons hd (Sub.refl l)) (ht rfl)
def DR (P : Program) (N : Nat) (ops : Array Oper) (Q : Po) (S : World → Prop) (fuel : Nat) (listed : Array Bool) (l : KL) (w : World) : Prop :=
 ∀ a, Kn N a l → S w → wpAnyH P .any ops (up N Q) S fuel listed a w
theorem Zmq {S : World → Prop} {fuel : Nat} {listed : Array Bool} {l' : KL} (hs : Sub l l') (h : DR P N ops Q S fuel listed l w) : DR P N ops Q S fuel listed l' w := fun a ha => h a (ha.sub hs)
theorem Zvo {id : Nat} (S : World → Prop) (hm : P.follows .mixedOrders = true) (hS : S { w with drawn := w.drawn + 1 })
   (h : DR P N ops Q S ops.size (Array.replicate ops.size false) l { w with drawn := w.drawn + 1 }) : W P N (.region id ops true) Q l w :=
 fun a ha => wp_region_held (S := S) hm (h a ha hS)
def Zgh (ops : Array Oper) (listed : Array Bool) (i : Nat) : Bool := Region.noSelect ops && Region.free .any ops listed i && (Region.ready .any ops listed).contains i
theorem Zuu {S : World → Prop} {fuel : Nat} {listed : Array Bool} (i : Nat) (hi : ops[i]? = some o) (hk : Zgh ops listed i = true) (hd : dOk N o.dst = true) (hg : Zgv ops l o = some true) {v : Value}
   (hr : ∀ w, S w → Qu P l o w v w) (h : DR P N ops Q S fuel (listed.setIfInBounds i true) (pu l o.dst v) w) : DR P N ops Q S (fuel + 1) listed l w := by
 intro a ha hS
 simp only [Zgh, Bool.and_eq_true] at hk
 refine wpAnyH_take hi hk.1.1 hk.1.2 hk.2 (fun c a w hq => hq) (v := v) (.inl ⟨Zbw ha hg, fun w hw => hr w hw a.eval (fun x u hx => ha.eval hx)⟩) hS ?_
 exact h _ (ha.pu hd v) hS
theorem Zun {S : World → Prop} {fuel : Nat} {listed : Array Bool} (i : Nat) (hi : ops[i]? = some o) (hk : Zgh ops listed i = true) (hd : dOk N o.dst = true) (hg : Zgv ops l o = some false)
   (h : DR P N ops Q S fuel (listed.setIfInBounds i true) (pu l o.dst undef) w) : DR P N ops Q S (fuel + 1) listed l w := by
 intro a ha hS
 simp only [Zgh, Bool.and_eq_true] at hk
 refine wpAnyH_take hi hk.1.1 hk.1.2 hk.2 (fun c a w hq => hq) (v := undef) (.inr ⟨Zbw ha hg, rfl⟩) hS ?_
 exact h _ (ha.pu hd undef) hS
theorem Zsx {S : World → Prop} {fuel : Nat} {listed : Array Bool} {rs : List Nat} (hr : Region.ready .any ops listed = rs) (hne : rs ≠ [])
   (h : ∀ i ∈ rs, ∀ a, Kn N a l → S w → wpOp P ops (up N Q) i (fun a' w' => S w' ∧ wpAnyH P .any ops (up N Q) S fuel (listed.setIfInBounds i true) a' w') a w) : DR P N ops Q S (fuel + 1) listed l w :=
 fun a ha hS => wpAnyH_all hr hne fun i hi => h i hi a ha hS
def DO (P : Program) (N : Nat) (ops : Array Oper) (Q : Po) (S : World → Prop) (fuel : Nat) (listed : Array Bool) (i : Nat) (l : KL) (w : World) : Prop :=
 ∀ a, Kn N a l → S w → wpOp P ops (up N Q) i (fun a' w' => S w' ∧ wpAnyH P .any ops (up N Q) S fuel (listed.setIfInBounds i true) a' w') a w
theorem Zvu {S : World → Prop} {fuel : Nat} {listed : Array Bool} (i : Nat) (hr : Region.ready .any ops listed = [i]) (h : DO P N ops Q S fuel listed i l w) : DR P N ops Q S (fuel + 1) listed l w :=
 Zsx hr (by simp) (by intro k hk; rw [List.mem_singleton.1 hk]; exact h)
theorem Zau {S : World → Prop} {fuel : Nat} {listed : Array Bool} (i j : Nat) (hr : Region.ready .any ops listed = [i, j]) (h1 : DO P N ops Q S fuel listed i l w) (h2 : DO P N ops Q S fuel listed j l w) : DR P N ops Q S (fuel + 1) listed l w :=
 Zsx hr (by simp) (by intro k hk; rcases List.mem_cons.1 hk with rfl | hk; exact h1; rw [List.mem_singleton.1 hk]; exact h2)
theorem Xe {S : World → Prop} {fuel : Nat} {listed : Array Bool} {d : Nat} {b : Bool} (hd : look l d = some (.bool b)) (ht : b = true → DR P N ops Q S fuel listed ((d, .bool true) :: l) w)
   (hf : b = false → DR P N ops Q S fuel listed ((d, .bool false) :: l) w) : DR P N ops Q S fuel listed l w := by
 cases b
 ·exact Zmq (Sub.cons hd (Sub.refl l)) (hf rfl)
 exact Zmq (Sub.cons hd (Sub.refl l)) (ht rfl)
theorem Yb {S : World → Prop} {fuel : Nat} {listed : Array Bool} (hr : Region.ready .any ops listed = []) (h : Q .normal l w) : DR P N ops Q S fuel listed l w :=
 fun _ ha _ => wpAnyH_done hr ⟨l, ha, h⟩ fuel
def Zgt (P : Program) (l : KL) (w : World) : List ResultVar → List Value → Prop
 | [], [] => True
 | .tmp t :: rs, v :: vs => look l t = some v ∧ Zgt P l w rs vs
 | .cell t ty :: rs, v :: vs => (∃ a, look l t = some (.pointer (some a)) ∧ (loadVar ty a).run P w = .ok v w) ∧ Zgt P l w rs vs
 | _, _ => False
def Zgk (vs : List Value) : Value := match vs with | [v] => v | vs => .tuple vs.toArray
def resF (a : Act) : ResultVar → Sem Value
 | .tmp t => pure (a.tmps.getD t undef)
 | .cell x t => do loadVar t (← asAddr (a.tmps.getD x undef))
theorem Zoh (fn : Func) (a : Act) : results fn a.tmps = (fn.results.mapM (resF a) >>= fun vs => pure (if h : vs.size = 1 then vs[0] else .tuple vs)) := by
 unfold results
 congr 1
theorem Zie {a : Act} (ha : Kn N a l) (fn : Func) {vs : List Value} (h : Zgt P l w fn.results.toList vs) : (results fn a.tmps).run P w = .ok (Zgk vs) w := by
 have key : ∀ (rs : List ResultVar) (vs : List Value), Zgt P l w rs vs → (rs.mapM (resF a)).run P w = .ok vs w := by
  intro rs
  induction rs with
  | nil => intro vs h; cases vs <;> simp [Zgt] at h ⊢
  | cons r rs ih =>
   intro vs h
   cases vs with
   | nil => cases r <;> simp [Zgt] at h
   | cons v vs =>
    have hv : (resF a r).run P w = .ok v w ∧ Zgt P l w rs vs := by
     cases r with
     | tmp t =>
      obtain ⟨h1, h2⟩ := h
      exact ⟨by simp only [resF, ha.slot t v h1]; rfl, h2⟩
     | cell t ty =>
      obtain ⟨⟨p, h1, h3⟩, h2⟩ := h
      refine ⟨?_, h2⟩
      have hA : (asAddr (a.tmps.getD t undef)).run P w = .ok p w := by rw [ha.slot t _ h1]; rfl
      simp only [resF, Sem.run_bind, hA, Result.andThen_ok, h3]
    simp only [List.mapM_cons, Sem.run_bind, Sem.run_pure, Result.andThen_ok, hv.1, ih vs hv.2]
 have h1 := key _ _ h
 have h2 : (fn.results.mapM (resF a)).run P w = .ok vs.toArray w := by
  rw [← Array.toArray_toList (xs := fn.results), List.mapM_toArray]
  simp only [Sem.run_map, h1, Result.andThen_ok]
 rw [Zoh, Sem.run_bind, h2]
 show Result.ok _ w = Result.ok _ w
 congr 1
 match vs with
 | [] => simp [Zgk]
 | [v] => simp [Zgk]
 | v :: u :: vs => simp [Zgk]
def retP (P : Program) (rs : List ResultVar) (R : Value → World → Prop) : Po
 | .normal, l, w | .ret, l, w => ∃ vs, Zgt P l w rs vs ∧ R (Zgk vs) w
 | _, _, _ => False
def Zom : Nat → List Value → KL
 | _, [] => []
 | i, v :: vs => (i, v) :: Zom (i + 1) vs
theorem Zny : ∀ (vs : List Value) (i t : Nat) (v : Value), look (Zom i vs) t = some v → i ≤ t ∧ vs[t - i]? = some v := by
 intro vs
 induction vs with
 | nil => intro i t v h; simp [Zom, look] at h
 | cons x vs ih =>
  intro i t v h
  simp only [Zom, look] at h
  by_cases e : i = t
  ·subst e; simp at h; simp [h]
  have e' : Nat.beq i t = false := Bool.eq_false_iff.2 (fun h => e (Nat.eq_of_beq_eq_true h))
  rw [e'] at h
  obtain ⟨h1, h2⟩ := ih (i + 1) t v h
  refine ⟨by omega, ?_⟩
  rw [show t - i = (t - (i + 1)) + 1 from by omega]
  simpa using h2
theorem Yh {f : FuncId} {fn : Func} {c : Code} {vs0 : List Value} {R : Value → World → Prop} (hf : P.funcs[f]? = some fn) (hb : fn.body = some c) (hn : fn.ntmps = N) (hle : Nat.ble vs0.length N = true)
   (h : W P N c (retP P fn.results.toList R) (Zom 0 vs0) w) : Ctr P f vs0.toArray w R := by
 refine calls_of_wp hf hb (wp_mono (h _ ⟨rfl, ?_, fun t v hv => ?_⟩) fun e a w' he => ?_)
 ·have := Nat.le_of_ble_eq_true hle
  simp [hn]; omega
 ·obtain ⟨_, h2⟩ := Zny vs0 0 t v hv
  simp only [Nat.sub_zero] at h2
  rw [Array.getD_eq_getD_getElem?, Array.getElem?_append_left (by have := (List.getElem?_eq_some_iff.1 h2).1; simpa using this)]
  simp [h2]
 cases e with
 | normal =>
  obtain ⟨l', hl, vs, hr, hR⟩ := he
  exact ⟨hl.defers, _, Zie hl fn hr, _, rfl, hR⟩
 | ret =>
  obtain ⟨l', hl, vs, hr, hR⟩ := he
  exact ⟨hl.defers, _, Zie hl fn hr, _, rfl, hR⟩
 | exit id => obtain ⟨_, _, h⟩ := he; exact h.elim
 | goto n => obtain ⟨_, _, h⟩ := he; exact h.elim
 | panic ch => exact he.elim
 | outgrown => exact he.elim
theorem Zm {K : KL → World → Prop} (h : Q .ret l w) : thn K Q .ret l w := h
theorem Yi {id : Nat} (h : Q .ret l w) : inB id Q .ret l w := h
theorem Ya {K : KL → World → Prop} {i : Nat} (h : Q (.exit i) l w) : thn K Q (.exit i) l w := h
theorem Xd {i : Nat} (h : Q .normal l w) : inB i Q (.exit i) l w := by
 show (bif Nat.beq i i then Q .normal l w else Q (.exit i) l w)
 rw [Nat.beq_refl]
 exact h
theorem Zb {K : KL → World → Prop} (h : K l w) : thn K Q .normal l w := h
theorem Yc {id : Nat} (h : Q .normal l w) : inB id Q .normal l w := h
theorem Zi {rs : List ResultVar} {R : Value → World → Prop} (vs : List Value) (hr : Zgt P l w rs vs) (hR : R (Zgk vs) w) : retP P rs R .ret l w := ⟨vs, hr, hR⟩
theorem Zqs {rs : List ResultVar} {R : Value → World → Prop} (vs : List Value) (hr : Zgt P l w rs vs) (hR : R (Zgk vs) w) : retP P rs R .normal l w := ⟨vs, hr, hR⟩
def Step (P : Program) (l : KL) (o : Oper) (w : World) (K : Value → World → Prop) : Prop :=
 ∀ (a : Act) (K' : Act → World → Prop) (Q' : Exit → Act → World → Prop), (∀ x u, ev l x = some u → a.eval x = u) → (∀ v w', K v w' → K' (a.put o.dst v) w') → o.wp P a w K' Q'
theorem Step.of {v : Value} {w' : World} {K : Value → World → Prop} (hr : Qu P l o w v w') (h : K v w') : Step P l o w K := by
 intro a K' Q' ha hK
 unfold Oper.wp
 rw [hr a.eval ha]
 exact hK v w' h
theorem Step.ofU {w' : World} {K : Value → World → Prop} (hr : Zrf P l o w w') (h : K undef w') : Step P l o w K := by
 intro a K' Q' ha hK
 unfold Oper.wp
 rw [hr a.eval ha]
 exact hK undef w' h
theorem Step.call {f : FuncId} {args : Array Value} {K R : Value → World → Prop} (hr : Ztv P l o w f args) (hc : Ctr P f args w R) (h : ∀ v w', R v w' → K v w') : Step P l o w K := by
 intro a K' Q' ha hK
 unfold Oper.wp
 rw [hr a.eval ha]
 refine Calls.mono hc fun e w' he => ?_
 obtain ⟨v, rfl, hv⟩ := he
 exact hK v w' (h v w' hv)
theorem Zk (hd : dOk N o.dst = true) (hg : Zgv ops l o = some true) (h : Step P l o w fun v w' => WL P N ops Q rest (pu l o.dst v) w') : WL P N ops Q (o :: rest) l w := by
 intro a ha
 refine wpList_step fun K hK => ?_
 rw [if_pos (Zbw ha hg)]
 exact h a K _ (fun x u hx => ha.eval hx) fun v w' hw => hK _ _ (hw _ (ha.pu hd v))
theorem Ye {S : World → Prop} {fuel : Nat} {listed : Array Bool} {i : Nat} (hi : ops[i]? = some o) (hd : dOk N o.dst = true) (hg : Zgv ops l o = some true)
   (h : Step P l o w fun v w' => S w' ∧ DR P N ops Q S fuel (listed.setIfInBounds i true) (pu l o.dst v) w') : DO P N ops Q S fuel listed i l w := by
 intro a ha _
 unfold wpOp
 simp only [hi]
 rw [if_pos (Zbw ha hg)]
 exact .inl (h a _ _ (fun x u hx => ha.eval hx) fun v w' hw => ⟨hw.1, hw.2 _ (ha.pu hd v) hw.1⟩)
def Tk (P : Program) (S : World → Prop) (l : KL) (o : Oper) (G : Value → Prop) : Prop := ∃ v, (∀ w, S w → Qu P l o w v w) ∧ G v
theorem Tk.of {S : World → Prop} {v : Value} {G : Value → Prop} (h : ∀ w, S w → Qu P l o w v w) (hG : G v) : Tk P S l o G := ⟨v, h, hG⟩
theorem DR_s {S : World → Prop} {fuel : Nat} {listed : Array Bool} (i : Nat) (hi : ops[i]? = some o) (hk : Zgh ops listed i = true) (hd : dOk N o.dst = true) (hg : Zgv ops l o = some true)
   (h : Tk P S l o fun v => DR P N ops Q S fuel (listed.setIfInBounds i true) (pu l o.dst v) w) : DR P N ops Q S (fuel + 1) listed l w :=
 let ⟨_, hr, h⟩ := h
 Zuu i hi hk hd hg hr h
end rules
end Go.KLib

namespace Go.KLib
structure Ch (ws : List Nat) (w w' : World) : Prop where
 os : w'.os = w.os
 tape : w'.tape = w.tape
 output : w'.output = w.output
 size : w.heap.size ≤ w'.heap.size
 block : ∀ k, k < w.heap.size → k ∉ ws → w'.heap[k]? = w.heap[k]?
theorem Ch.refl (ws : List Nat) (w : World) : Ch ws w w := ⟨rfl, rfl, rfl, Nat.le_refl _, fun _ _ _ => rfl⟩
theorem Ch.trans {ws : List Nat} {a b c : World} (h : Ch ws a b) (k : Ch ws b c) : Ch ws a c :=
 ⟨k.os.trans h.os, k.tape.trans h.tape, k.output.trans h.output, Nat.le_trans h.size k.size, fun i hi hn => (k.block i (Nat.lt_of_lt_of_le hi h.size) hn).trans (h.block i hi hn)⟩
theorem Ch.mono {ws ws' : List Nat} {a b : World} (h : Ch ws a b) (hs : ∀ k, k < a.heap.size → k ∈ ws → k ∈ ws') : Ch ws' a b :=
 ⟨h.os, h.tape, h.output, h.size, fun k hk hn => h.block k hk fun hm => hn (hs k hk hm)⟩
theorem Ch.of_nil {ws : List Nat} {a b : World} (h : Ch [] a b) : Ch ws a b := h.mono (fun _ _ hm => by cases hm)
theorem Ch.step {ws us : List Nat} {a b c : World} (h : Ch ws a b) (k : Ch us b c) (hf : ∀ i ∈ us, a.heap.size ≤ i ∨ i ∈ ws) : Ch ws a c :=
 ⟨k.os.trans h.os, k.tape.trans h.tape, k.output.trans h.output, Nat.le_trans h.size k.size, fun i hi hn =>
  (k.block i (Nat.lt_of_lt_of_le hi h.size) fun hm => by rcases hf i hm with h' | h'; omega; exact hn h').trans (h.block i hi hn)⟩
theorem Ch.drew {ws : List Nat} {a b : World} (h : Ch ws a b) : Ch ws a { b with drawn := b.drawn + 1 } := ⟨h.os, h.tape, h.output, h.size, h.block⟩
theorem Ch.below {a b : World} (h : Ch [] a b) : RowKit.Below a.heap.size a b := ⟨h.os, h.tape, h.output, h.size, fun k hk => h.block k hk (by simp)⟩
theorem Ch.alloc (w : World) (o : Obj) : Ch [] w (w.alloc o) := ⟨rfl, rfl, rfl, by simp, fun k hk _ => RowKit.Below.heap_alloc w o k hk⟩
theorem Ch.setCell (w : World) (p : Addr) (v : Value) : Ch [p.block] w (w.setCell p v) :=
 ⟨rfl, rfl, rfl, by simp, fun k _ hn => RowKit.Below.heap_setCell w p v k (by simpa using hn)⟩
theorem Ch.cell {ws : List Nat} {w w' : World} (h : Ch ws w w') {p : Addr} {u : Value} (hc : w.cell? p = some u) (hn : p.block ∉ ws) : w'.cell? p = some u :=
 (World.cell?_of_block (h.block p.block (World.block_lt_of_cell? w p hc) hn)).trans hc
theorem Zcr (a : Addr) (n : Nat) : (a.add n).block = a.block := by unfold Addr.add; split <;> rfl
theorem add_add (a : Addr) (i j : Nat) : (a.add i).add j = a.add (i + j) := by
 unfold Addr.add
 by_cases hi : i = 0 <;> by_cases hj : j = 0 <;> simp [hi, hj, Nat.add_assoc]
theorem add_lit (b o n : Nat) : (⟨b, o, none⟩ : Addr).add n = ⟨b, o + n, none⟩ := by unfold Addr.add; split <;> simp_all
def At (w : World) (L B : Nat) (p : Addr) (cs : List Value) : Prop := (L ≤ p.block ∧ p.block < B) ∧ ∀ j u, cs[j]? = some u → w.cell? (p.add j) = some u
section
variable {w w' : World} {L L' B B' : Nat} {p : Addr} {cs : List Value} {ws : List Nat}
theorem At.ch (h : At w L B p cs) (c : Ch ws w w') (hw : ∀ k ∈ ws, k < L ∨ B ≤ k) : At w' L B p cs :=
 ⟨h.1, fun j u hu => c.cell (h.2 j u hu) (by rw [Zcr]; intro hm; have := hw _ hm; have := h.1; omega)⟩
theorem At.ch0 (h : At w L B p cs) (c : Ch [] w w') : At w' L B p cs := h.ch c (by simp)
theorem At.up (h : At w L B p cs) (hL : L' ≤ L) (hB : B ≤ B') : At w L' B' p cs := ⟨⟨Nat.le_trans hL h.1.1, Nat.lt_of_lt_of_le h.1.2 hB⟩, h.2⟩
theorem At.cell (h : At w L B p cs) (j : Nat) {u : Value} (hu : cs[j]? = some u) : w.cell? (p.add j) = some u := h.2 j u hu
theorem At.sub (h : At w L B p cs) (o n : Nat) : At w L B (p.add o) ((cs.drop o).take n) := by
 refine ⟨by rw [Zcr]; exact h.1, fun j u hu => ?_⟩
 rw [add_add]
 refine h.2 (o + j) u ?_
 rw [List.getElem?_take] at hu
 split at hu
 ·rwa [List.getElem?_drop] at hu
 cases hu
theorem At.lt (h : At w L B p cs) : p.block < B := h.1.2
end
def Blk (w : World) (b : Nat) (t : TypeId) (cs : List Value) : Prop := w.heap[b]? = some (.cells cs.toArray t (0, 0))
section
variable {w w' : World} {b : Nat} {t : TypeId} {cs : List Value} {ws : List Nat}
theorem Blk.lt (h : Blk w b t cs) : b < w.heap.size := by
 rcases Nat.lt_or_ge b w.heap.size with hlt | hge
 ·exact hlt
 unfold Blk at h; rw [Array.getElem?_eq_none hge] at h; cases h
theorem Blk.ch (h : Blk w b t cs) (c : Ch ws w w') (hn : b ∉ ws) : Blk w' b t cs := (c.block b h.lt hn).trans h
theorem Blk.ch0 (h : Blk w b t cs) (c : Ch [] w w') : Blk w' b t cs := h.ch c (by simp)
theorem Blk.cell (h : Blk w b t cs) (i : Nat) : w.cell? ⟨b, i, none⟩ = cs[i]? := by
 unfold Blk at h
 simp [World.cell?, h]
theorem Blk.at_ (h : Blk w b t cs) : At w b (b + 1) ⟨b, 0, none⟩ cs :=
 ⟨⟨Nat.le_refl b, Nat.lt_succ_self b⟩, fun j u hu => by rw [add_lit, h.cell]; simpa using hu⟩
theorem Blk.frozen (h : Blk w b t cs) (i : Nat) : w.frozen? ⟨b, i, none⟩ = false := by
 unfold Blk at h
 simp [World.frozen?, h]
theorem Blk.new (w : World) (t : TypeId) (cs : List Value) : Blk (w.alloc (.cells cs.toArray t)) w.heap.size t cs := heap_alloc_new w _
theorem Blk.set (h : Blk w b t cs) (i : Nat) (u : Value) : Blk (w.setCell ⟨b, i, none⟩ u) b t (cs.set i u) := by
 unfold Blk at h ⊢
 simp [World.setCell, Array.getElem?_modify, h]
end
def Sl (w : World) (L B k : Nat) (v : Value) (n : Nat) (xs : List Value) : Prop :=
 xs.length = n * k ∧ ∃ A c, v = .slice A n c ∧ n ≤ c ∧ c ≤ maxLen ∧ (0 < n → ∃ ad, A = some ad ∧ At w L B ad xs)
section
variable {w w' : World} {L L' B B' k n : Nat} {v : Value} {xs : List Value} {ws : List Nat}
theorem Sl.ch (h : Sl w L B k v n xs) (c : Ch ws w w') (hw : ∀ i ∈ ws, i < L ∨ B ≤ i) : Sl w' L B k v n xs := by
 obtain ⟨hl, A, cp, hv, h1, h2, h3⟩ := h
 exact ⟨hl, A, cp, hv, h1, h2, fun hn => let ⟨ad, he, ha⟩ := h3 hn; ⟨ad, he, ha.ch c hw⟩⟩
theorem Sl.ch0 (h : Sl w L B k v n xs) (c : Ch [] w w') : Sl w' L B k v n xs := h.ch c (by simp)
theorem Sl.up (h : Sl w L B k v n xs) (hL : L' ≤ L) (hB : B ≤ B') : Sl w L' B' k v n xs := by
 obtain ⟨hl, A, cp, hv, h1, h2, h3⟩ := h
 exact ⟨hl, A, cp, hv, h1, h2, fun hn => let ⟨ad, he, ha⟩ := h3 hn; ⟨ad, he, ha.up hL hB⟩⟩
theorem Sl.nil (w : World) (L B k : Nat) : Sl w L B k (.slice none 0 0) 0 [] := ⟨by simp, none, 0, rfl, Nat.le_refl _, Nat.zero_le _, fun h => absurd h (by omega)⟩
theorem Sl.len_le (h : Sl w L B k v n xs) : n ≤ 9223372036854775807 := by
 obtain ⟨_, _, _, _, h1, h2, _⟩ := h
 simp only [maxLen] at h2
 omega
end
def Ow (w : World) (e : TypeId) (k : Nat) (v : Value) (n : Nat) (xs : List Value) : Prop :=
 xs.length = n * k ∧ ((v = .slice none 0 0 ∧ n = 0) ∨
  ∃ g off cap cur, v = .slice (some ⟨g, off, none⟩) n cap ∧ w.heap[g]? = some (.cells cur e (0, 0)) ∧ n ≤ cap ∧ cap ≤ maxLen ∧ off + cap * k ≤ cur.size ∧ (cur.toList.drop off).take (n * k) = xs)
def bl (v : Value) : List Nat := v.ownBlock.toList
def Lo (B : Nat) (v : Value) : Prop := ∀ g ∈ bl v, B ≤ g
section
variable {w w' : World} {L L' B B' k n : Nat} {e : TypeId} {v : Value} {xs : List Value} {ws : List Nat}
theorem Ow.nil (w : World) (e : TypeId) (k : Nat) : Ow w e k (.slice none 0 0) 0 [] := ⟨by simp, .inl ⟨rfl, rfl⟩⟩
theorem Lo.nil (B : Nat) : Lo B (.slice none 0 0) := by intro g hg; simp [bl, Value.ownBlock] at hg
theorem Lo.down (h : Lo B v) (hB : B' ≤ B) : Lo B' v := fun g hg => Nat.le_trans hB (h g hg)
theorem Ow.lt (h : Ow w e k v n xs) : ∀ g ∈ bl v, g < w.heap.size := by
 intro g hg
 rcases h.2 with ⟨rfl, _⟩ | ⟨g', off, cap, cur, rfl, hgg, _⟩
 ·simp [bl, Value.ownBlock] at hg
 simp [bl, Value.ownBlock] at hg
 subst hg
 exact (Array.getElem?_eq_some_iff.1 hgg).1
theorem Ow.ch (h : Ow w e k v n xs) (c : Ch ws w w') (hn : ∀ g ∈ bl v, g ∉ ws) : Ow w' e k v n xs := by
 refine ⟨h.1, ?_⟩
 rcases h.2 with h0 | ⟨g, off, cap, cur, rfl, hg, rest⟩
 ·exact .inl h0
 exact .inr ⟨g, off, cap, cur, rfl, by rw [c.block g (Array.getElem?_eq_some_iff.1 hg).1 (hn g (by simp [bl, Value.ownBlock]))]; exact hg, rest⟩
theorem Ow.ch0 (h : Ow w e k v n xs) (c : Ch [] w w') : Ow w' e k v n xs := h.ch c (by simp)
theorem Ow.cells (h : Ow w e k v n xs) {g off cap : Nat} (hv : v = .slice (some ⟨g, off, none⟩) n cap) : ∀ j u, xs[j]? = some u → w.cell? ⟨g, off + j, none⟩ = some u := by
 intro j u hu
 rcases h.2 with ⟨rfl, _⟩ | ⟨g', off', cap', cur, rfl, hg, _, _, _, ht⟩
 ·cases hv
 injection hv with h1 _ h3
 injection h1 with h1
 injection h1 with h1 h2
 subst h1 h2
 rw [← ht, List.getElem?_take] at hu
 split at hu
 ·rw [List.getElem?_drop] at hu
  simpa [World.cell?, hg] using hu
 cases hu
theorem Ow.sl (h : Ow w e k v n xs) : Sl w 0 w.heap.size k v n xs := by
 refine ⟨h.1, ?_⟩
 have hc := fun g off cap => h.cells (g := g) (off := off) (cap := cap)
 rcases h.2 with ⟨rfl, rfl⟩ | ⟨g, off, cap, cur, rfl, hg, h1, h2, h3, _⟩
 ·exact ⟨none, 0, rfl, Nat.le_refl _, Nat.zero_le _, fun h => absurd h (by omega)⟩
 exact ⟨_, cap, rfl, h1, h2, fun _ => ⟨_, rfl, ⟨Nat.zero_le _, (Array.getElem?_eq_some_iff.1 hg).1⟩, fun j u hu => by rw [add_lit]; exact hc g off cap rfl j u hu⟩⟩
theorem Ow.made (w : World) (e : TypeId) (k cap : Nat) (cur : Array Value) (n : Nat) (hn : n ≤ cap) (hm : cap ≤ maxLen) (hs : cur.size = cap * k) :
   Ow (w.alloc (.cells cur e)) e k (.slice (some ⟨w.heap.size, 0, none⟩) n cap) n (cur.toList.take (n * k)) := by
 refine ⟨?_, .inr ⟨w.heap.size, 0, cap, cur, rfl, heap_alloc_new w _, hn, hm, by omega, by simp⟩⟩
 rw [List.length_take, Array.length_toList, hs]
 exact Nat.min_eq_left (Nat.mul_le_mul_right _ hn)
theorem Ow.len_le (h : Ow w e k v n xs) : n ≤ 9223372036854775807 := h.sl.len_le
end
theorem Yx {P : Program} {N : Nat} {ops : Array Oper} {Q : Po} {id : Nat} {l : KL} {w : World} (ws : List Nat) (n : Nat) (hm : P.follows .mixedOrders = true) (hn : ops.size = n)
   (h : ∀ w1, Ch [] w w1 → DR P N ops Q (Ch ws w1) n (Array.replicate n false) l w1) : W P N (.region id ops true) Q l w := by
 subst hn
 exact Zvo (Ch ws { w with drawn := w.drawn + 1 }) hm (Ch.refl _ _) (h _ (Ch.refl [] w).drew)
theorem Sl.here {w : World} {L B k n : Nat} {v : Value} {xs : List Value} (h : Sl w L B k v n xs) (hk : 0 < k) : Sl w L w.heap.size k v n xs := by
 obtain ⟨hl, A, c, hv, h1, h2, h3⟩ := h
 refine ⟨hl, A, c, hv, h1, h2, fun hn => ?_⟩
 obtain ⟨ad, he, hb, ha⟩ := h3 hn
 refine ⟨ad, he, ⟨hb.1, ?_⟩, ha⟩
 have hx : 0 < xs.length := by rw [hl]; exact Nat.mul_pos hn hk
 have := World.block_lt_of_cell? w _ (ha 0 _ (List.getElem?_eq_getElem hx))
 rwa [Zcr] at this
end Go.KLib

namespace Go.KLib
def Ys (P : Program) (t : TypeId) : Option Bool :=
 match P.underlying t with
 | some (.struct _) | some (.array _ _) => some true
 | some _ => some false
 | none => none
def Yg (P : Program) (t : TypeId) : Option Nat := (P.info? t).map (·.size)
def Qw (P : Program) (t : TypeId) : Option Nat := (P.info? t).map (·.bytes)
def Xg (P : Program) (t : TypeId) : Option Value := (P.info? t).bind (·.zero)
def elB (P : Program) (t : TypeId) : Option TypeId :=
 match P.underlying t with
 | some (.slice e) => some e
 | _ => none
def faB (P : Program) (s field : Nat) : Option Nat :=
 match P.underlying s with
 | some (.struct fs) => match fs[field]? with
  | some f => match Yg P f.type with
   | some (_ + 1) => some f.offset
   | _ => none
  | none => none
 | _ => none
section
variable {P : Program} {w : World}
theorem Znb {t : TypeId} {b : Bool} (h : Ys P t = some b) : (isAgg t).run P w = .ok b w := by
 unfold Ys at h
 cases hu : P.underlying t with
 | none => simp [hu] at h
 | some d => cases d <;> simp [hu] at h <;> simp [isAgg, run_underlying hu, h]
theorem Zar {t : TypeId} {n : Nat} (h : Yg P t = some n) : (sizeOf t).run P w = .ok n w := by
 unfold Yg at h
 cases hi : P.info? t with
 | none => simp [hi] at h
 | some i => simp [hi] at h; simp [sizeOf, typeInfo, hi, h]
theorem Zfb {t : TypeId} {z : Value} (h : Xg P t = some z) : (zeroValue t).run P w = .ok z w := by
 unfold Xg at h
 cases hi : P.info? t with
 | none => simp [hi] at h
 | some i => simp [hi] at h; simp [zeroValue, typeInfo, hi, h]
theorem Zbu {t e : TypeId} (h : elB P t = some e) : P.underlying t = some (.slice e) := by
 unfold elB at h
 cases hu : P.underlying t with
 | none => simp [hu] at h
 | some d => cases d <;> simp [hu] at h; rw [h]
theorem Zuk {t : TypeId} {s b : Nat} {z : Value} (hs : Yg P t = some s) (hb : Qw P t = some b) (hz : Xg P t = some z) : ∃ i, P.info? t = some i ∧ i.zero = some z ∧ i.size = s ∧ i.bytes = b := by
 unfold Yg at hs; unfold Qw at hb; unfold Xg at hz
 cases hi : P.info? t with
 | none => simp [hi] at hs
 | some i => simp [hi] at hs hb hz; exact ⟨i, rfl, hz, hs, hb⟩
variable {l : KL} {dst : Option Tmp} {ty : TypeId} {pos : String} {aft : Array Edge} {gd : Option (Nat × Bool)}
theorem Zd {x : Operand} {v : Value} (h : ev l x = some v) : Qu P l ⟨dst, .move x, ty, pos, aft, gd⟩ w v w := fun ρ hρ => by simp [execOp, hρ x v h]
theorem Ze {x : Operand} {v : Value} (h : ev l x = some v) : Qu P l ⟨dst, .assign x, ty, pos, aft, gd⟩ w v w := fun ρ hρ => by simp [execOp, hρ x v h]
theorem Zw {c x y : Operand} {u : Value} (hc : ev l c = some (.bool true)) (hx : ev l x = some u) : Qu P l ⟨dst, .pick c x y, ty, pos, aft, gd⟩ w u w := fun ρ hρ => by
 simp [execOp, hρ _ _ hc, hρ _ _ hx, asBool]
theorem Zv {c x y : Operand} {v : Value} (hc : ev l c = some (.bool false)) (hy : ev l y = some v) : Qu P l ⟨dst, .pick c x y, ty, pos, aft, gd⟩ w v w := fun ρ hρ => by
 simp [execOp, hρ _ _ hc, hρ _ _ hy, asBool]
theorem Qc {x : Operand} {p : Addr} (h : ev l x = some (.pointer (some p))) : Qu P l ⟨dst, .nilCheck x, ty, pos, aft, gd⟩ w (.pointer (some p)) w := fun ρ hρ => by simp [execOp, hρ x _ h]
theorem Xi {x : Operand} {t : TypeId} {b : Bool} (h : ev l x = some (.bool b)) : Qu P l ⟨dst, .unOp .not t x, ty, pos, aft, gd⟩ w (.bool (!b)) w := fun ρ hρ => by simp [execOp, hρ x _ h, Op.unary]
theorem Xc {x : Operand} {vs : Array Value} {i : Nat} {v : Value} (h : ev l x = some (.tuple vs)) (hi : vs[i]? = some v) : Qu P l ⟨dst, .extract x i, ty, pos, aft, gd⟩ w v w := fun ρ hρ => by
 simp [execOp, hρ x _ h, Instr.extract, hi]
theorem Zh {x : Operand} {s field off : Nat} {p : Addr} (hs : faB P s field = some off) (h : ev l x = some (.pointer (some p))) :
   Qu P l ⟨dst, .fieldAddr s x field, ty, pos, aft, gd⟩ w (.pointer (some (p.add off))) w := fun ρ hρ => by
 unfold faB at hs
 cases hu : P.underlying s with
 | none => simp [hu] at hs
 | some d =>
  cases d with
  | struct fs =>
   simp only [hu] at hs
   cases hf : fs[field]? with
   | none => simp [hf] at hs
   | some f =>
    simp only [hf] at hs
    cases hz : Yg P f.type with
    | none => simp [hz] at hs
    | some n =>
     cases n with
     | zero => simp [hz] at hs
     | succ n =>
      simp [hz] at hs
      simp [execOp, hρ x _ h, Instr.fieldAt, run_underlying hu, hf, Instr.sureAddr, fieldPlace, Zar hz, hs]
  | _ => simp [hu] at hs
theorem Zph {x : Operand} {t : TypeId} {p : Addr} {v : Value} (ht : Ys P t = some false) (h : ev l x = some (.pointer (some p))) (hc : w.cell? p = some v) :
   Qu P l ⟨dst, .load t x, ty, pos, aft, gd⟩ w v w := fun ρ hρ => by
 simp [execOp, hρ x _ h, Instr.loadAt, Instr.sureAddr, loadVar, Znb ht, hc]
theorem Zlk {t : TypeId} {p : Addr} {cs : List Value} (ht : Ys P t = some true) (hz : Yg P t = some cs.length) (hc : ∀ j u, cs[j]? = some u → w.cell? (p.add j) = some u) :
   (loadVar t p).run P w = .ok (.agg cs.toArray) w := by
 simp [loadVar, Znb ht, Zar hz, run_loadCells_list w p cs hc]
theorem Zpq {x : Operand} {t : TypeId} {p : Addr} {cs : List Value} (ht : Ys P t = some true) (hz : Yg P t = some cs.length) (h : ev l x = some (.pointer (some p)))
   (hc : ∀ j u, cs[j]? = some u → w.cell? (p.add j) = some u) : Qu P l ⟨dst, .load t x, ty, pos, aft, gd⟩ w (.agg cs.toArray) w := fun ρ hρ => by
 simp [execOp, hρ x _ h, Instr.loadAt, Instr.sureAddr, Zlk ht hz hc]
theorem Zp {x : Operand} {t : TypeId} {p : Addr} {L B off : Nat} {cs : List Value} {v : Value} (ha : At w L B p cs) (ht : Ys P t = some false) (h : ev l x = some (.pointer (some (p.add off)))) (hv : cs[off]? = some v) :
 Qu P l ⟨dst, .load t x, ty, pos, aft, gd⟩ w v w := Zph ht h (ha.cell off hv)
theorem Zld {x : Operand} {t : TypeId} {p : Addr} {L B off : Nat} {cs : List Value} (n : Nat) (ha : At w L B p cs) (ht : Ys P t = some true) (hz : Yg P t = some n) (hn : ((cs.drop off).take n).length = n) (h : ev l x = some (.pointer (some (p.add off)))) :
 Qu P l ⟨dst, .load t x, ty, pos, aft, gd⟩ w (.agg ((cs.drop off).take n).toArray) w := Zpq ht (by rw [hn]; exact hz) h (ha.sub off n).2
theorem Yk {x : Operand} {t : TypeId} {p : Addr} {L B : Nat} {cs : List Value} {v : Value} (ha : At w L B p cs) (ht : Ys P t = some false) (h : ev l x = some (.pointer (some p))) (hv : cs[0]? = some v) :
 Qu P l ⟨dst, .load t x, ty, pos, aft, gd⟩ w v w := Zph ht h (ha.cell 0 hv)
theorem Zt {x : Operand} {t : TypeId} {p : Addr} {L B : Nat} {cs : List Value} (ha : At w L B p cs) (ht : Ys P t = some true) (hz : Yg P t = some cs.length) (h : ev l x = some (.pointer (some p))) :
 Qu P l ⟨dst, .load t x, ty, pos, aft, gd⟩ w (.agg cs.toArray) w := Zpq ht hz h ha.2
section
variable {x y : Operand} {xt yt : TypeId} {k : IntKind} {a b : Int}
theorem Xv (hx : ev l x = some (.int k a)) (hy : ev l y = some (.int k b)) : Qu P l ⟨dst, .binOp .lss xt x y yt, ty, pos, aft, gd⟩ w (.bool (decide (a < b))) w := fun ρ hρ => by
 simp [execOp, hρ _ _ hx, hρ _ _ hy, eqGuard, binOp, Op.intCmp]
theorem Zfo (hx : ev l x = some (.int k a)) (hy : ev l y = some (.int k b)) : Qu P l ⟨dst, .binOp .leq xt x y yt, ty, pos, aft, gd⟩ w (.bool (decide (a ≤ b))) w := fun ρ hρ => by
 simp [execOp, hρ _ _ hx, hρ _ _ hy, eqGuard, binOp, Op.intCmp]
theorem Zec (hx : ev l x = some (.int k a)) (hy : ev l y = some (.int k b)) : Qu P l ⟨dst, .binOp .gtr xt x y yt, ty, pos, aft, gd⟩ w (.bool (decide (b < a))) w := fun ρ hρ => by
 simp [execOp, hρ _ _ hx, hρ _ _ hy, eqGuard, binOp, Op.intCmp]
theorem Zjj (hx : ev l x = some (.int k a)) (hy : ev l y = some (.int k b)) : Qu P l ⟨dst, .binOp .geq xt x y yt, ty, pos, aft, gd⟩ w (.bool (decide (b ≤ a))) w := fun ρ hρ => by
 simp [execOp, hρ _ _ hx, hρ _ _ hy, eqGuard, binOp, Op.intCmp]
theorem Xu (hx : ev l x = some (.int k a)) (hy : ev l y = some (.int k b)) : Qu P l ⟨dst, .binOp .eql xt x y yt, ty, pos, aft, gd⟩ w (.bool (decide (a = b))) w := fun ρ hρ => by
 have e : (a == b) = decide (a = b) := by by_cases h : a = b <;> simp [h]
 simp [execOp, hρ _ _ hx, hρ _ _ hy, eqGuard, binOp, Op.intCmp, e]
theorem Zbb (hx : ev l x = some (.int k a)) (hy : ev l y = some (.int k b)) : Qu P l ⟨dst, .binOp .neq xt x y yt, ty, pos, aft, gd⟩ w (.bool (!decide (a = b))) w := fun ρ hρ => by
 have e : (a != b) = !decide (a = b) := by by_cases h : a = b <;> simp [h]
 simp [execOp, hρ _ _ hx, hρ _ _ hy, eqGuard, binOp, Op.intCmp, e]
theorem Ztg (hx : ev l x = some (.int k a)) (hy : ev l y = some (.int k b)) : Qu P l ⟨dst, .binOp .add xt x y yt, ty, pos, aft, gd⟩ w (.int k (k.wrap (a + b))) w := fun ρ hρ => by
 simp [execOp, hρ _ _ hx, hρ _ _ hy, eqGuard, binOp, Op.intArith]
theorem Zvp (hx : ev l x = some (.int k a)) (hy : ev l y = some (.int k b)) : Qu P l ⟨dst, .binOp .sub xt x y yt, ty, pos, aft, gd⟩ w (.int k (k.wrap (a - b))) w := fun ρ hρ => by
 simp [execOp, hρ _ _ hx, hρ _ _ hy, eqGuard, binOp, Op.intArith]
theorem Ztj (hx : ev l x = some (.int k a)) (hy : ev l y = some (.int k b)) : Qu P l ⟨dst, .binOp .mul xt x y yt, ty, pos, aft, gd⟩ w (.int k (k.wrap (a * b))) w := fun ρ hρ => by
 simp [execOp, hρ _ _ hx, hρ _ _ hy, eqGuard, binOp, Op.intArith]
theorem Yq (h : -9223372036854775808 ≤ a + b ∧ a + b ≤ 9223372036854775807) (hx : ev l x = some (.int .i64 a)) (hy : ev l y = some (.int .i64 b)) : Qu P l ⟨dst, .binOp .add xt x y yt, ty, pos, aft, gd⟩ w (.int .i64 (a + b)) w := by
 have := Ztg (P := P) (w := w) (dst := dst) (xt := xt) (yt := yt) (ty := ty) (pos := pos) (aft := aft) (gd := gd) hx hy
 rwa [IntWalk.i64_in _ h] at this
theorem Zbr (h : -9223372036854775808 ≤ a - b ∧ a - b ≤ 9223372036854775807) (hx : ev l x = some (.int .i64 a)) (hy : ev l y = some (.int .i64 b)) : Qu P l ⟨dst, .binOp .sub xt x y yt, ty, pos, aft, gd⟩ w (.int .i64 (a - b)) w := by
 have := Zvp (P := P) (w := w) (dst := dst) (xt := xt) (yt := yt) (ty := ty) (pos := pos) (aft := aft) (gd := gd) hx hy
 rwa [IntWalk.i64_in _ h] at this
theorem Zrg (h : -9223372036854775808 ≤ a * b ∧ a * b ≤ 9223372036854775807) (hx : ev l x = some (.int .i64 a)) (hy : ev l y = some (.int .i64 b)) : Qu P l ⟨dst, .binOp .mul xt x y yt, ty, pos, aft, gd⟩ w (.int .i64 (a * b)) w := by
 have := Ztj (P := P) (w := w) (dst := dst) (xt := xt) (yt := yt) (ty := ty) (pos := pos) (aft := aft) (gd := gd) hx hy
 rwa [IntWalk.i64_in _ h] at this
theorem Zdu {src d : TypeId} (hs : (P.underlying src).isSome = true) (hd : P.underlying d = some (.int k)) {k' : IntKind} (hx : ev l x = some (.int k' a)) :
   Qu P l ⟨dst, .convert src d x, ty, pos, aft, gd⟩ w (.int k (k.wrap a)) w := fun ρ hρ => by
 obtain ⟨d', hd'⟩ := Option.isSome_iff_exists.mp hs
 simp [execOp, hρ _ _ hx, convert, run_underlying hd', run_underlying hd, Conv.intToInt]
theorem Zid {src d : TypeId} (h : -9223372036854775808 ≤ a ∧ a ≤ 9223372036854775807) (hs : (P.underlying src).isSome = true) (hd : P.underlying d = some (.int .i64)) {k' : IntKind} (hx : ev l x = some (.int k' a)) :
   Qu P l ⟨dst, .convert src d x, ty, pos, aft, gd⟩ w (.int .i64 a) w := by
 have := Zdu (P := P) (w := w) (dst := dst) (ty := ty) (pos := pos) (aft := aft) (gd := gd) hs hd hx
 rwa [IntWalk.i64_in _ h] at this
theorem Zel {t : TypeId} {p q : Bool} (ht : P.underlying t = some .bool) : (Op.equal t (.bool p) (.bool q)).run P w = .ok (p == q) w := by
 have e : ∀ d, (Op.equalIn (d + 1) t (.bool p) (.bool q)).run P w = .ok (p == q) w := fun d => by
  simp [Op.equalIn, run_underlying ht]
 exact e 9999
theorem Zbj {p q : Bool} (ht : P.underlying xt = some .bool) (hx : ev l x = some (.bool p)) (hy : ev l y = some (.bool q)) : Qu P l ⟨dst, .binOp .eql xt x y yt, ty, pos, aft, gd⟩ w (.bool (p == q)) w := fun ρ hρ => by
 have e : binOp .eql xt (.bool p) (.bool q) = (do pure (.bool (← Op.equal xt (.bool p) (.bool q)))) := rfl
 simp [execOp, hρ _ _ hx, hρ _ _ hy, eqGuard, e, Zel ht]
theorem Zba {p q : Bool} (ht : P.underlying xt = some .bool) (hx : ev l x = some (.bool p)) (hy : ev l y = some (.bool q)) : Qu P l ⟨dst, .binOp .neq xt x y yt, ty, pos, aft, gd⟩ w (.bool (!(p == q))) w := fun ρ hρ => by
 have e : binOp .neq xt (.bool p) (.bool q) = (do pure (.bool (!(← Op.equal xt (.bool p) (.bool q))))) := rfl
 simp [execOp, hρ _ _ hx, hρ _ _ hy, eqGuard, e, Zel ht]
end
theorem Xm {x : Operand} {t : TypeId} {A : Option Addr} {n c : Nat} (ht : (elB P t).isSome = true) (h : ev l x = some (.slice A n c)) :
   Qu P l ⟨dst, .call { callee := .builtin .len, args := #[x], argTypes := #[t] }, ty, pos, aft, gd⟩ w (.int .i64 n) w := fun ρ hρ => by
 obtain ⟨e, he⟩ := Option.isSome_iff_exists.mp ht
 simp [execOp, resolve, invoke, builtin, Builtin.len_, run_underlying (Zbu he), hρ _ _ h, goInt]
theorem Zpm {x ix : Operand} {t e : TypeId} {k n L B : Nat} {v : Value} {xs : List Value} {i : Int} {q : IntKind} (hs : Sl w L B k v n xs) (ht : elB P t = some e) (hk : Yg P e = some k)
   (hx : ev l x = some v) (hi : ev l ix = some (.int q i)) (h0 : 0 ≤ i) (h1 : i < n) :
   ∃ p, (∀ w', Qu P l ⟨dst, .indexAddr t x ix, ty, pos, aft, gd⟩ w' (.pointer (some p)) w') ∧ At w L B p ((xs.drop (i.toNat * k)).take k) := by
 obtain ⟨hl, A, c, rfl, hc, hm, hA⟩ := hs
 obtain ⟨ad, rfl, ha⟩ := hA (by omega)
 refine ⟨ad.add (i.toNat * k), fun w' ρ hρ => ?_, ha.sub _ _⟩
 simp [execOp, hρ _ _ hx, hρ _ _ hi, Instr.indexAt, asIntOf, run_underlying (Zbu ht), Zar hk, h0, h1]
theorem Zse {x ix : Operand} {t e : TypeId} {k n : Nat} {v : Value} {xs : List Value} {i : Int} {q : IntKind} {e' : TypeId} (hs : Ow w e' k v n xs) (ht : elB P t = some e) (hk : Yg P e = some k)
   (hx : ev l x = some v) (hi : ev l ix = some (.int q i)) (h0 : 0 ≤ i) (h1 : i < n) :
   ∃ g off cap, v = .slice (some ⟨g, off, none⟩) n cap ∧ ∀ w', Qu P l ⟨dst, .indexAddr t x ix, ty, pos, aft, gd⟩ w' (.pointer (some ⟨g, off + i.toNat * k, none⟩)) w' := by
 rcases hs.2 with ⟨rfl, rfl⟩ | ⟨g, off, cap, cur, rfl, _⟩
 ·omega
 refine ⟨g, off, cap, rfl, fun w' ρ hρ => ?_⟩
 simp [execOp, hρ _ _ hx, hρ _ _ hi, Instr.indexAt, asIntOf, run_underlying (Zbu ht), Zar hk, h0, h1, add_lit]
theorem Zwo {x : Operand} {t : TypeId} {v : Value} (h : ev l x = some v) :
   ∃ b w', Qu P l ⟨dst, .box t x, ty, pos, aft, gd⟩ w (.pointer (some ⟨b, 0, none⟩)) w' ∧ Blk w' b t v.cells.toList ∧ Ch [] w w' ∧ b = w.heap.size := by
 refine ⟨w.heap.size, w.alloc (.cells v.cells.toList.toArray t), fun ρ hρ => ?_, Blk.new w t _, Ch.alloc w _, rfl⟩
 simp [execOp, hρ _ _ h, Instr.box, newVar, newRow]
theorem Ztx {t : TypeId} {z : Value} (hz : Xg P t = some z) :
   ∃ b w', Qu P l ⟨dst, .alloc t, ty, pos, aft, gd⟩ w (.pointer (some ⟨b, 0, none⟩)) w' ∧ Blk w' b t z.cells.toList ∧ Ch [] w w' ∧ b = w.heap.size := by
 refine ⟨w.heap.size, w.alloc (.cells z.cells.toList.toArray t), fun ρ _ => ?_, Blk.new w t _, Ch.alloc w _, rfl⟩
 simp [execOp, Instr.alloc, Zfb hz, newVar, newRow]
theorem Zrp {a x : Operand} {t t' : TypeId} {b off : Nat} {cs : List Value} {v : Value} (hb : Blk w b t' cs) (ht : Yg P t = some 1) (h1 : v.oneCell' = true)
   (ha : ev l a = some (.pointer (some (Addr.add ⟨b, 0, none⟩ off)))) (hx : ev l x = some v) (ho : Nat.blt off cs.length = true) :
   ∃ w', Zrf P l ⟨dst, .store t a x, ty, pos, aft, gd⟩ w w' ∧ Blk w' b t' (cs.set off v) ∧ Ch [b] w w' := by
 have hlt : off < cs.length := by simpa [Nat.blt_eq] using ho
 refine ⟨w.setCell ⟨b, off, none⟩ v, fun ρ hρ => ?_, hb.set off v, Ch.setCell w ⟨b, off, none⟩ v⟩
 have hvc : v.cells = #[v] := by cases v <;> simp_all [Value.oneCell', Value.cells]
 have hst : (store (Addr.add (Addr.add ⟨b, 0, none⟩ off) 0) v).run P w = .ok () (w.setCell ⟨b, off, none⟩ v) := by
  rw [add_add, add_lit, run_store P w _ v _ h1]
  simp only [Nat.zero_add, Nat.add_zero]
  rw [hb.cell off, hb.frozen off, List.getElem?_eq_getElem hlt]
  rfl
 simp [execOp, hρ _ _ ha, hρ _ _ hx, Instr.storeAt, Instr.sureAddr, storeVar, hvc, Zar ht, storeCells, hst]
theorem Zdi {w : World} {g : Nat} {cur cs : Array Value} {t : TypeId} (hg : w.heap[g]? = some (.cells cur t (0, 0))) : (w.setRow g cs).heap[g]? = some (.cells cs t (0, 0)) := setRow_heap w g cur cs t _ hg
theorem Ch.setRow (w : World) (g : Nat) (cs : Array Value) : Ch [g] w (w.setRow g cs) := ⟨rfl, rfl, rfl, by simp, fun k _ hn => setRow_other w g k _ (by simpa using hn)⟩
theorem Zsj {a x : Operand} {t t' : TypeId} {b off : Nat} {cs us : List Value} (hb : Blk w b t' cs) (ht : Yg P t = some us.length) (h1 : us.all Value.oneCell' = true)
   (ha : ev l a = some (.pointer (some (Addr.add ⟨b, 0, none⟩ off)))) (hx : ev l x = some (.agg us.toArray)) (ho : Nat.ble (off + us.length) cs.length = true) :
   ∃ w', Zrf P l ⟨dst, .store t a x, ty, pos, aft, gd⟩ w w' ∧ Blk w' b t' (cs.take off ++ us ++ cs.drop (off + us.length)) ∧ Ch [b] w w' := by
 have hle : off + us.length ≤ cs.length := Nat.le_of_ble_eq_true ho
 have hst := run_storeCells_at (P := P) b off t' us 0 cs.toArray w hb (by simpa using hle) (by simpa using h1)
 refine ⟨w.setRow b (cs.take off ++ us ++ cs.drop (off + us.length)).toArray, fun ρ hρ => ?_, Zdi hb, Ch.setRow w b _⟩
 simp only [Nat.add_zero] at hst
 simp [execOp, hρ _ _ ha, hρ _ _ hx, Instr.storeAt, Instr.sureAddr, storeVar, Value.cells, Zar ht, add_lit, hst]
theorem Zrx {a x : Operand} {t e : TypeId} {g off cap n k j : Nat} {v : Value} {xs us : List Value} (hs : Ow w e k v n xs) (hv : v = .slice (some ⟨g, off, none⟩) n cap) (hu : us.length = k) (ht : Yg P t = some k) (h1 : us.all Value.oneCell' = true)
   (ha : ev l a = some (.pointer (some ⟨g, off + j * k, none⟩))) (hx : ∃ u, ev l x = some u ∧ u.cells = us.toArray) (hj : j < n) :
   ∃ w', Zrf P l ⟨dst, .store t a x, ty, pos, aft, gd⟩ w w' ∧ Ow w' e k v n (xs.take (j * k) ++ us ++ xs.drop (j * k + k)) ∧ Ch [g] w w' := by
 obtain ⟨u, hxu, hcells⟩ := hx
 rcases hs.2 with ⟨rfl, _⟩ | ⟨g', off', cap', cur, rfl, hg, hn, hm, hc, htk⟩
 ·cases hv
 injection hv with h1' _ h3
 injection h1' with h1'
 injection h1' with h1' h2'
 subst h1' h2' h3
 have hjk : j * k + k ≤ n * k := by rw [← Nat.succ_mul]; exact Nat.mul_le_mul_right _ hj
 have hnk : n * k ≤ cap' * k := Nat.mul_le_mul_right _ hn
 have hst := run_storeCells_at (P := P) g' (off' + j * k) e us 0 cur w hg (by omega) (by simpa using h1)
 refine ⟨w.setRow g' (cur.toList.take (off' + j * k) ++ us ++ cur.toList.drop (off' + j * k + us.length)).toArray, fun ρ hρ => ?_, ⟨?_, .inr ⟨g', off', cap', _, rfl, Zdi hg, hn, hm, ?_, ?_⟩⟩, Ch.setRow w g' _⟩
 ·simp only [Nat.add_zero] at hst
  simp [execOp, hρ _ _ ha, hρ _ _ hxu, Instr.storeAt, Instr.sureAddr, storeVar, hcells, hu, Zar ht, hst]
 ·have hl := hs.1
  simp only [List.length_append, List.length_take, List.length_drop, hu, hl]
  omega
 ·simp only [List.size_toArray, List.length_append, List.length_take, List.length_drop, Array.length_toList]
  omega
 have hcl : off' + cap' * k ≤ cur.toList.length := by simpa using hc
 apply List.ext_getElem?
 intro i
 have hxl := hs.1
 rw [← htk]
 simp only [List.getElem?_take, List.getElem?_drop, List.getElem?_append, List.length_append, List.length_take, List.length_drop, hu]
 have e1 : min (off' + j * k) cur.toList.length = off' + j * k := by omega
 have e2 : min (j * k) (min (n * k) (cur.toList.length - off')) = j * k := by omega
 rw [e1, e2]
 by_cases hi : i < n * k
 ·rw [if_pos hi]
  by_cases h1 : i < j * k
  ·rw [if_pos (by omega), if_pos (by omega), if_pos (by omega), if_pos (by omega), if_pos h1, if_pos hi, if_pos h1]
  by_cases h2 : i < j * k + k
  ·rw [if_pos (by omega), if_neg (by omega), if_pos (by omega), if_neg (by omega)]
   congr 1
   omega
  rw [if_neg (by omega), if_neg (by omega), if_pos (by omega)]
  congr 1
  omega
 rw [if_neg hi, if_neg (by omega), if_neg (by omega)]
end
end Go.KLib

namespace Go.KLib
def evs (l : KL) : List Operand → Option (List Value)
 | [] => some []
 | x :: xs => match ev l x, evs l xs with
  | some v, some vs => some (v :: vs)
  | _, _ => none
theorem Zhu {l : KL} {ρ : Operand → Value} (hρ : ∀ x u, ev l x = some u → ρ x = u) : ∀ (xs : List Operand) (vs : List Value), evs l xs = some vs → xs.map ρ = vs
 | [], vs, h => by simp [evs] at h; simp [h]
 | x :: xs, vs, h => by
  simp only [evs] at h
  cases h1 : ev l x with
  | none => simp [h1] at h
  | some u =>
   cases h2 : evs l xs with
   | none => simp [h1, h2] at h
   | some us =>
    simp [h1, h2] at h
    rw [List.map_cons, hρ x u h1, Zhu hρ xs us h2, h]
def fnB (P : Program) (f : FuncId) : Bool :=
 match P.funcs[f]? with
 | some fn => !(fn.name == "runtime.NumGoroutine") && fn.body.isSome
 | none => false
section
variable {P : Program} {w : World} {l : KL} {dst : Option Tmp} {ty : TypeId} {pos : String} {aft : Array Edge} {gd : Option (Nat × Bool)}
theorem Zgp {f : FuncId} (h : fnB P f = true) (args : Array Value) : (callFunc f args).run P w = .ok (.enter f args) w := by
 unfold fnB at h
 cases hf : P.funcs[f]? with
 | none => simp [hf] at h
 | some fn =>
  simp only [hf, Bool.and_eq_true, Bool.not_eq_true'] at h
  have hb : fn.body ≠ none := by intro hn; rw [hn] at h; simp at h
  have hnm : fn.name ≠ "runtime.NumGoroutine" := by simpa using h.1
  simp [callFunc, hf, hnm, hb]
theorem Zl {f : FuncId} {xs : List Operand} {vs : List Value} {ts : Array TypeId} (hf : fnB P f = true) (hx : evs l xs = some vs) :
   Ztv P l ⟨dst, .call { callee := .value (.func f), args := xs.toArray, argTypes := ts }, ty, pos, aft, gd⟩ w f vs.toArray := fun ρ hρ => by
 have h1 : ρ (.func f) = .func (.func f) #[] #[] := hρ _ _ rfl
 have h2 := Zhu hρ xs vs hx
 simp [execOp, resolve, h1, h2, Deferred.ofValue, invoke, Zgp hf]
theorem Zjn {f : FuncId} {t : Nat} {first captured : Array Value} {xs : List Operand} {vs as' : List Value} {ts : Array TypeId} (hf : fnB P f = true) (ht : look l t = some (.func (.func f) first captured)) (hx : evs l xs = some vs) (ha : first.toList ++ vs ++ captured.toList = as') :
   Ztv P l ⟨dst, .call { callee := .value (.tmp t), args := xs.toArray, argTypes := ts }, ty, pos, aft, gd⟩ w f as'.toArray := fun ρ hρ => by
 have h1 : ρ (.tmp t) = _ := hρ (.tmp t) _ ht
 have h2 := Zhu hρ xs vs hx
 have h3 : first ++ vs.toArray ++ captured = as'.toArray := by rw [← ha]; simp
 simp [execOp, resolve, h1, h2, Deferred.ofValue, invoke, Zgp hf]
 simpa using h3
theorem Zeb {fn : Fn} {xs ys : List Operand} {vs us : List Value} (hx : evs l xs = some vs) (hy : evs l ys = some us) :
   Qu P l ⟨dst, .makeFunc fn xs.toArray ys.toArray, ty, pos, aft, gd⟩ w (.func fn vs.toArray us.toArray) w := fun ρ hρ => by
 simp [execOp, Instr.makeFunc, Zhu hρ xs vs hx, Zhu hρ ys us hy]
variable {K : Value → World → Prop}
theorem s_v {o : Oper} {v : Value} (hr : Qu P l o w v w) (h : K v w) : Step P l o w K := Step.of hr h
theorem Xw {x : Operand} {t : TypeId} {v : Value} (h : ev l x = some v) (k : ∀ b w', Blk w' b t v.cells.toList → Ch [] w w' → b = w.heap.size → K (.pointer (some ⟨b, 0, none⟩)) w') :
   Step P l ⟨dst, .box t x, ty, pos, aft, gd⟩ w K := by
 obtain ⟨b, w', hr, h1, h2, h3⟩ := Zwo (P := P) (w := w) (dst := dst) (t := t) (ty := ty) (pos := pos) (aft := aft) (gd := gd) h
 exact Step.of hr (k b w' h1 h2 h3)
theorem Yr {t : TypeId} {z : Value} (hz : Xg P t = some z) (k : ∀ b w', Blk w' b t z.cells.toList → Ch [] w w' → b = w.heap.size → K (.pointer (some ⟨b, 0, none⟩)) w') :
   Step P l ⟨dst, .alloc t, ty, pos, aft, gd⟩ w K := by
 obtain ⟨b, w', hr, h1, h2, h3⟩ := Ztx (P := P) (w := w) (l := l) (dst := dst) (ty := ty) (pos := pos) (aft := aft) (gd := gd) hz
 exact Step.of hr (k b w' h1 h2 h3)
theorem Xh {a x : Operand} {t t' : TypeId} {b off : Nat} {cs : List Value} {v : Value} (hb : Blk w b t' cs) (ht : Yg P t = some 1)
   (ha : ev l a = some (.pointer (some (Addr.add ⟨b, 0, none⟩ off)))) (hx : ev l x = some v) (h1 : v.oneCell' = true) (ho : Nat.blt off cs.length = true)
   (k : ∀ w', Blk w' b t' (cs.set off v) → Ch [b] w w' → K undef w') : Step P l ⟨dst, .store t a x, ty, pos, aft, gd⟩ w K := by
 obtain ⟨w', hr, h2, h3⟩ := Zrp (P := P) (w := w) (dst := dst) (ty := ty) (pos := pos) (aft := aft) (gd := gd) hb ht h1 ha hx ho
 exact Step.ofU hr (k w' h2 h3)
theorem Zy {a x : Operand} {t t' : TypeId} {b off : Nat} {cs us : List Value} (n : Nat) (hb : Blk w b t' cs) (ht : Yg P t = some n)
   (ha : ev l a = some (.pointer (some (Addr.add ⟨b, 0, none⟩ off)))) (hx : ev l x = some (.agg us.toArray)) (hn : us.length = n) (h1 : us.all Value.oneCell' = true) (ho : Nat.ble (off + us.length) cs.length = true)
   (k : ∀ w', Blk w' b t' (cs.take off ++ us ++ cs.drop (off + us.length)) → Ch [b] w w' → K undef w') : Step P l ⟨dst, .store t a x, ty, pos, aft, gd⟩ w K := by
 obtain ⟨w', hr, h2, h3⟩ := Zsj (P := P) (w := w) (dst := dst) (ty := ty) (pos := pos) (aft := aft) (gd := gd) hb (by rw [hn]; exact ht) h1 ha hx ho
 exact Step.ofU hr (k w' h2 h3)
theorem Zhh {α : Type} {cs : α → List Value} {k : Nat} (hc : ∀ x, (cs x).length = k) : ∀ (xs : List α) (i : Nat) (x : α), xs[i]? = some x → ((xs.flatMap cs).drop (i * k)).take k = cs x
 | [], i, x, h => by simp at h
 | y :: ys, 0, x, h => by
  simp at h
  subst h
  simp only [List.flatMap_cons, Nat.zero_mul, List.drop_zero]
  rw [← hc y, List.take_left]
 | y :: ys, i + 1, x, h => by
  have ih := Zhh hc ys i x (by simpa using h)
  simp only [List.flatMap_cons]
  rw [Nat.succ_mul, Nat.add_comm (i * k) k, ← List.drop_drop]
  conv => lhs; rw [← hc y]
  rw [List.drop_left, hc y]
  exact ih
theorem flat_len {α : Type} {cs : α → List Value} {k : Nat} (hc : ∀ x, (cs x).length = k) (xs : List α) : (xs.flatMap cs).length = xs.length * k := by
 induction xs with
 | nil => simp
 | cons x xs ih => simp [hc, ih, Nat.succ_mul, Nat.add_comm]
def Ls {α : Type} (cs : α → List Value) (k : Nat) (w : World) (L B : Nat) (v : Value) (xs : List α) : Prop := Sl w L B k v xs.length (xs.flatMap cs)
def Ol {α : Type} (cs : α → List Value) (e k : Nat) (w : World) (v : Value) (xs : List α) : Prop := Ow w e k v xs.length (xs.flatMap cs)
section
variable {α : Type} {cs : α → List Value} {e k L L' B B' : Nat} {v : Value} {xs : List α} {w' : World} {ws : List Nat}
theorem Ls.ch (h : Ls cs k w L B v xs) (c : Ch ws w w') (hw : ∀ i ∈ ws, i < L ∨ B ≤ i) : Ls cs k w' L B v xs := Sl.ch h c hw
theorem Ls.ch0 (h : Ls cs k w L B v xs) (c : Ch [] w w') : Ls cs k w' L B v xs := Sl.ch0 h c
theorem Ls.up (h : Ls cs k w L B v xs) (hL : L' ≤ L) (hB : B ≤ B') : Ls cs k w L' B' v xs := Sl.up h hL hB
theorem Ls.here (h : Ls cs k w L B v xs) (hk : 0 < k) : Ls cs k w L w.heap.size v xs := Sl.here h hk
theorem Ls.eq {ys : List α} (h : Ls cs k w L B v xs) (he : xs = ys) : Ls cs k w L B v ys := by subst he; exact h
theorem Ol.eq {ys : List α} (h : Ol cs e k w v xs) (he : xs = ys) : Ol cs e k w v ys := by subst he; exact h
theorem Ls.nil (w : World) (L B : Nat) : Ls cs k w L B (.slice none 0 0) ([] : List α) := Sl.nil w L B k
theorem Ls.len (h : Ls cs k w L B v xs) : xs.length ≤ 9223372036854775807 := Sl.len_le h
theorem Ls.val (h : Ls cs k w L B v xs) : ∃ A c, v = .slice A xs.length c := by obtain ⟨_, A, c, hv, _⟩ := h; exact ⟨A, c, hv⟩
theorem Ol.ch (h : Ol cs e k w v xs) (c : Ch ws w w') (hn : ∀ g ∈ bl v, g ∉ ws) : Ol cs e k w' v xs := Ow.ch h c hn
theorem Ol.ch0 (h : Ol cs e k w v xs) (c : Ch [] w w') : Ol cs e k w' v xs := Ow.ch0 h c
theorem Ol.ls (h : Ol cs e k w v xs) : Ls cs k w 0 w.heap.size v xs := Ow.sl h
theorem Ol.lt (h : Ol cs e k w v xs) : ∀ g ∈ bl v, g < w.heap.size := Ow.lt h
theorem Ol.nil (w : World) : Ol cs e k w (.slice none 0 0) ([] : List α) := Ow.nil w e k
theorem Ol.len (h : Ol cs e k w v xs) : xs.length ≤ 9223372036854775807 := Ow.len_le h
theorem Ol.val (h : Ol cs e k w v xs) : ∃ A c, v = .slice A xs.length c := h.ls.val
theorem Yy {x ix : Operand} {t : TypeId} {j : Nat} {i : Int} {q : IntKind} (hs : Ls cs k w L B v xs) (hc : ∀ x, (cs x).length = k) (ht : elB P t = some e) (hk : Yg P e = some k)
   (hx : ev l x = some v) (hi : ev l ix = some (.int q i)) (hj : i = (j : Int)) (h1 : j < xs.length)
   (kk : ∀ p y, xs[j]? = some y → At w L B p (cs y) → K (.pointer (some p)) w) : Step P l ⟨dst, .indexAddr t x ix, ty, pos, aft, gd⟩ w K := by
 subst hj
 obtain ⟨p, hr, ha⟩ := Zpm (P := P) (dst := dst) (ty := ty) (pos := pos) (aft := aft) (gd := gd) hs ht hk hx hi (by omega) (by omega)
 have hy : xs[j]? = some xs[j] := List.getElem?_eq_getElem h1
 rw [Int.toNat_natCast, Zhh hc xs j _ hy] at ha
 exact Step.of (hr w) (kk p _ hy ha)
theorem Ql {S : World → Prop} {G : Value → Prop} {w0 : World} {x ix : Operand} {t : TypeId} {j : Nat} {i : Int} {q : IntKind} (hs : Ls cs k w0 L B v xs) (hc : ∀ x, (cs x).length = k) (ht : elB P t = some e) (hk : Yg P e = some k)
   (hx : ev l x = some v) (hi : ev l ix = some (.int q i)) (hj : i = (j : Int)) (h1 : j < xs.length)
   (kk : ∀ p y, xs[j]? = some y → At w0 L B p (cs y) → G (.pointer (some p))) : Tk P S l ⟨dst, .indexAddr t x ix, ty, pos, aft, gd⟩ G := by
 subst hj
 obtain ⟨p, hr, ha⟩ := Zpm (P := P) (dst := dst) (ty := ty) (pos := pos) (aft := aft) (gd := gd) hs ht hk hx hi (by omega) (by omega)
 have hy : xs[j]? = some xs[j] := List.getElem?_eq_getElem h1
 rw [Int.toNat_natCast, Zhh hc xs j _ hy] at ha
 exact Tk.of (fun w' _ => hr w') (kk p _ hy ha)
end
theorem t_v {S : World → Prop} {G : Value → Prop} {o : Oper} {v : Value} (h : ∀ w, Qu P l o w v w) (hG : G v) : Tk P S l o G := Tk.of (fun w _ => h w) hG
theorem Xj {ws : List Nat} {w0 : World} {G : Value → Prop} {x : Operand} {t : TypeId} {p : Addr} {L B off : Nat} {cs : List Value} {v : Value} (ha : At w0 L B p cs) (hw : ∀ k ∈ ws, k < L ∨ B ≤ k) (ht : Ys P t = some false)
   (h : ev l x = some (.pointer (some (p.add off)))) (hv : cs[off]? = some v) (hG : G v) : Tk P (Ch ws w0) l ⟨dst, .load t x, ty, pos, aft, gd⟩ G :=
 Tk.of (fun _ c => Zp (ha.ch c hw) ht h hv) hG
theorem Qo {ws : List Nat} {w0 : World} {G : Value → Prop} {x : Operand} {t : TypeId} {p : Addr} {L B : Nat} {cs : List Value} {v : Value} (ha : At w0 L B p cs) (hw : ∀ k ∈ ws, k < L ∨ B ≤ k) (ht : Ys P t = some false)
   (h : ev l x = some (.pointer (some p))) (hv : cs[0]? = some v) (hG : G v) : Tk P (Ch ws w0) l ⟨dst, .load t x, ty, pos, aft, gd⟩ G :=
 Tk.of (fun _ c => Yk (ha.ch c hw) ht h hv) hG
theorem Zn {ws : List Nat} {w0 : World} {G : Value → Prop} {x : Operand} {t : TypeId} {p : Addr} {L B : Nat} {cs : List Value} (ha : At w0 L B p cs) (hw : ∀ k ∈ ws, k < L ∨ B ≤ k) (ht : Ys P t = some true) (hz : Yg P t = some cs.length)
   (h : ev l x = some (.pointer (some p))) (hG : G (.agg cs.toArray)) : Tk P (Ch ws w0) l ⟨dst, .load t x, ty, pos, aft, gd⟩ G :=
 Tk.of (fun _ c => Zt (ha.ch c hw) ht hz h) hG
theorem Zz {t ty : Nat} {b : Nat} {t' : TypeId} {cs : List Value} {rs : List ResultVar} {vs : List Value} (hb : Blk w b t' cs) (hl : look l t = some (.pointer (some ⟨b, 0, none⟩))) (ht : Ys P ty = some true) (hz : Yg P ty = some cs.length)
 (h : Zgt P l w rs vs) : Zgt P l w (.cell t ty :: rs) (.agg cs.toArray :: vs) := ⟨⟨_, hl, Zlk ht hz hb.at_.2⟩, h⟩
def Zct (P : Program) (t : TypeId) (n : Nat) : Bool :=
 match P.underlying t with
 | some (.struct fs) => fs.size == n && !P.stoodInHeld t && !P.eqGuardType P.depth t && (List.range n).all fun i => match fs[i]? with
  | some f => f.name != "_" && f.offset == i && (match P.underlying f.type with | some (.int .i64) => true | _ => false)
  | none => false
 | _ => false
theorem Zfg {t : TypeId} {cs : Array Value} {i : Nat} {v : Value} (ht : P.underlying t = some (.int .i64)) (h : cs[i]? = some v) : (part t cs i).run P w = .ok v w := by
 simp [part, isAgg, run_underlying ht, h]
theorem Zcu (xs ys : List Int) (d : Nat) : ∀ (fs : List Field) (o : Nat), o + fs.length = xs.length → o + fs.length = ys.length → (∀ i f, fs[i]? = some f → f.name ≠ "_" ∧ f.offset = o + i ∧ P.underlying f.type = some (.int .i64)) →
   (Op.eqFields (d + 1) (xs.map (.int .i64)).toArray (ys.map (.int .i64)).toArray fs).run P w = .ok (decide (xs.drop o = ys.drop o)) w
 | [], o, h1, h2, _ => by
  have e1 : xs.drop o = [] := List.drop_eq_nil_of_le (by simp at h1; omega)
  have e2 : ys.drop o = [] := List.drop_eq_nil_of_le (by simp at h2; omega)
  simp [Op.eqFields, e1, e2]
 | f :: fs, o, h1, h2, h => by
  obtain ⟨hn, ho, ht⟩ := h 0 f rfl
  simp only [List.length_cons] at h1 h2
  have hx : o < xs.length := by omega
  have hy : o < ys.length := by omega
  have p1 : ((xs.map (Value.int .i64)).toArray)[f.offset]? = some (.int .i64 xs[o]) := by simp [ho, hx]
  have p2 : ((ys.map (Value.int .i64)).toArray)[f.offset]? = some (.int .i64 ys[o]) := by simp [ho, hy]
  have ih := Zcu xs ys d fs (o + 1) (by omega) (by omega) (fun i g hg => by
   obtain ⟨a, b, c⟩ := h (i + 1) g (by simpa using hg)
   exact ⟨a, by omega, c⟩)
  simp only [Op.eqFields, hn, ne_eq, not_false_iff, if_true, Sem.run_bind, Zfg ht p1, Zfg ht p2, Result.andThen_ok, run_equalIn_int w d f.type .i64 .i64 xs[o] ys[o] ht, Sem.run_ite, Sem.run_pure, ih]
  rw [List.drop_eq_getElem_cons hx, List.drop_eq_getElem_cons hy]
  simp only [List.cons.injEq]
  by_cases he : xs[o] = ys[o] <;> simp [he]
theorem Zob {t : TypeId} (xs ys : List Int) (h : Zct P t xs.length = true) (hl : ys.length = xs.length) :
   (Op.equalIn 10000 t (.agg (xs.map (.int .i64)).toArray) (.agg (ys.map (.int .i64)).toArray)).run P w = .ok (decide (xs = ys)) w ∧ P.eqGuardType P.depth t = false := by
 unfold Zct at h
 cases hu : P.underlying t with
 | none => simp [hu] at h
 | some dd =>
  cases dd with
  | struct fs =>
   simp only [hu, Bool.and_eq_true, Bool.not_eq_true', beq_iff_eq, List.all_eq_true, List.mem_range] at h
   obtain ⟨⟨⟨h1, h2⟩, h3⟩, h4⟩ := h
   have hf : P.fieldsOf t = fs := by simp [Program.fieldsOf, hu]
   rw [run_equalIn_struct w 9999 t _ _ (by rw [hf]; exact hu) h2, hf]
   refine ⟨?_, h3⟩
   have := Zcu (P := P) (w := w) xs ys 9998 fs.toList 0 (by simp [h1]) (by simp [h1, hl]) (fun i f hi => by
    have hlt : i < xs.length := by
     have := (List.getElem?_eq_some_iff.1 hi).1
     simp [h1] at this
     exact this
    have hi' : fs[i]? = some f := by simpa using hi
    have := h4 i hlt
    simp only [hi', Bool.and_eq_true, bne_iff_ne, beq_iff_eq] at this
    refine ⟨this.1.1, by omega, ?_⟩
    have h5 := this.2
    split at h5
    ·assumption
    cases h5)
   simpa using this
  | _ => simp [hu] at h
end
end Go.KLib

namespace Go.KLib
structure Pair where
 f : Int
 t : Int
 deriving DecidableEq
def Pair.cs (p : Pair) : List Value := [.int .i64 p.f, .int .i64 p.t]
theorem Pair.len (p : Pair) : p.cs.length = 2 := rfl
structure Token where
 kind : Int
 letter : Int
 low : Int
 high : Int
 deriving DecidableEq
def Token.cs (p : Token) : List Value := [.int .i64 p.kind, .int .i64 p.letter, .int .i64 p.low, .int .i64 p.high]
theorem Token.len (p : Token) : p.cs.length = 4 := rfl
structure GEdge where
 id : Int
 f : Int
 t : Int
 label : Int
 deriving DecidableEq
def GEdge.cs (p : GEdge) : List Value := [.int .i64 p.id, .int .i64 p.f, .int .i64 p.t, .int .i64 p.label]
theorem GEdge.len (p : GEdge) : p.cs.length = 4 := rfl
def ics (n : Int) : List Value := [.int .i64 n]
theorem Yl (n : Int) : (ics n).length = 1 := rfl
def bcs (b : Bool) : List Value := [.bool b]
theorem Qa (b : Bool) : (bcs b).length = 1 := rfl
theorem Pair.inj {a b : Pair} (h : [a.f, a.t] = [b.f, b.t]) : a = b := by cases a; cases b; simpa using h
theorem Token.inj {a b : Token} (h : [a.kind, a.letter, a.low, a.high] = [b.kind, b.letter, b.low, b.high]) : a = b := by cases a; cases b; simpa using h
theorem GEdge.inj {a b : GEdge} (h : [a.id, a.f, a.t, a.label] = [b.id, b.f, b.t, b.label]) : a = b := by cases a; cases b; simpa using h
section
variable {α : Type} {cs : α → List Value} {e k n : Nat} {v : Value} {xs : List α} {w w' : World} {P : Program} {l : KL} {dst : Option Tmp} {ty : TypeId} {pos : String} {aft : Array Edge} {gd : Option (Nat × Bool)} {K : Value → World → Prop}
theorem Zmx {cs : α → List Value} (hc : ∀ x, (cs x).length = k) : ∀ (xs : List α) (j : Nat) (y : α), j < xs.length → (xs.flatMap cs).take (j * k) ++ cs y ++ (xs.flatMap cs).drop (j * k + k) = (xs.set j y).flatMap cs
 | [], j, y, h => by simp at h
 | x :: xs, 0, y, _ => by
  simp only [List.flatMap_cons, Nat.zero_mul, List.take_zero, List.nil_append, Nat.zero_add, List.set_cons_zero]
  rw [← hc x, List.drop_left]
 | x :: xs, j + 1, y, h => by
  have ih := Zmx hc xs j y (by simpa using h)
  simp only [List.flatMap_cons, List.set_cons_succ]
  rw [← ih, show (j + 1) * k = (cs x).length + j * k from by rw [hc x, Nat.succ_mul, Nat.add_comm], Nat.add_assoc, List.take_length_add_append, List.drop_length_add_append]
  simp [List.append_assoc]
theorem Zqn {z : Value} {z0 : α} (hz : z.cells.toList = cs z0) (hc : ∀ x, (cs x).length = k) (hk : 0 < k) (n : Nat) : (madeCells z.cells (n * k)).toList = (List.replicate n z0).flatMap cs := by
 have hs : z.cells.size = k := by rw [← Array.length_toList, hz, hc]
 induction n with
 | zero => simp [madeCells]
 | succ n ih =>
  rw [List.replicate_succ', List.flatMap_append, ← ih, Nat.succ_mul]
  unfold madeCells
  rw [Array.toList_map, Array.toList_range, List.range_add, List.map_append, Array.toList_map, Array.toList_range]
  congr 1
  simp only [List.flatMap_cons, List.flatMap_nil, List.append_nil, List.map_map]
  rw [← hz]
  apply List.ext_getElem?
  intro i
  by_cases hi : i < k
  ·have hi' : i < z.cells.size := by omega
   simp [hs, Nat.mul_add_mod_of_lt, Nat.add_mod, Nat.mod_eq_of_lt hi, hi, hi']
  simp [hs, hi]
theorem Zez {x ix : Operand} {t e' : TypeId} {j : Nat} {i : Int} {q : IntKind} (hs : Ol cs e' k w v xs) (ht : elB P t = some e) (hk : Yg P e = some k)
   (hx : ev l x = some v) (hi : ev l ix = some (.int q i)) (hj : i = (j : Int)) (h1 : j < xs.length)
   (kk : ∀ g off cap, v = .slice (some ⟨g, off, none⟩) xs.length cap → K (.pointer (some ⟨g, off + j * k, none⟩)) w) : Step P l ⟨dst, .indexAddr t x ix, ty, pos, aft, gd⟩ w K := by
 subst hj
 obtain ⟨g, off, cap, hv, hr⟩ := Zse (P := P) (dst := dst) (ty := ty) (pos := pos) (aft := aft) (gd := gd) hs ht hk hx hi (by omega) (by omega)
 exact Step.of (hr w) (kk g off cap hv)
theorem Zey {a x : Operand} {t : TypeId} {g off cap j : Nat} {u : Value} (y : α) (hs : Ol cs e k w v xs) (hv : v = .slice (some ⟨g, off, none⟩) xs.length cap) (hc : ∀ x, (cs x).length = k) (ht : Yg P t = some k)
   (ha : ev l a = some (.pointer (some ⟨g, off + j * k, none⟩))) (hx : ev l x = some u) (hu : u.cells.toList = cs y) (h1 : (cs y).all Value.oneCell' = true) (hj : j < xs.length)
   (kk : ∀ w', Ol cs e k w' v (xs.set j y) → Ch (bl v) w w' → K undef w') : Step P l ⟨dst, .store t a x, ty, pos, aft, gd⟩ w K := by
 obtain ⟨w', hr, ho, hch⟩ := Zrx (P := P) (dst := dst) (ty := ty) (pos := pos) (aft := aft) (gd := gd) hs hv (hc y) ht h1 ha ⟨u, hx, by rw [← hu]⟩ hj
 rw [Zmx hc xs j y hj] at ho
 refine Step.ofU hr (kk w' ⟨by simpa using ho.1, by simpa using ho.2⟩ ?_)
 subst hv
 exact hch
theorem Zjx {xs : List α} {j : Nat} (h : j < xs.length) : ∃ y, xs[j]? = some y := ⟨_, List.getElem?_eq_getElem h⟩
end
theorem Zgo {α : Type} {xs ys : List α} {k : Nat} (h : xs.take k = ys.take k) {x y : α} (hx : xs[k]? = some x) (hy : ys[k]? = some y) (he : x = y) : xs.take (k + 1) = ys.take (k + 1) := by
 rw [List.take_add_one, List.take_add_one, hx, hy, h, he]
theorem Zoe {α : Type} {xs ys : List α} {k : Nat} (h : xs.take k = ys.take k) (h1 : xs.length ≤ k) (h2 : ys.length = xs.length) : xs = ys := by
 rwa [List.take_of_length_le h1, List.take_of_length_le (by omega)] at h
theorem Zqj {α : Type} {xs ys : List α} {k : Nat} {x y : α} (hx : xs[k]? = some x) (hy : ys[k]? = some y) (he : ¬ x = y) : ¬ xs = ys := by
 rintro rfl
 rw [hx] at hy
 injection hy with hy
 exact he hy
theorem Zje {α : Type} (a : List α) (f : Nat → α) {k : Nat} (hk : k < a.length) : ((List.range k).map f ++ a.drop k).set k (f k) = (List.range (k + 1)).map f ++ a.drop (k + 1) := by
 rw [List.range_succ, List.map_append, List.set_append_right _ _ (by simp)]
 rw [List.drop_eq_getElem_cons hk]
 simp only [List.length_map, List.length_range, Nat.sub_self, List.set_cons_zero, List.map_cons, List.map_nil, List.append_assoc, List.singleton_append]
def Zkx (k : Int) (n : Nat) : List Pair := (List.range n).map fun (i : Nat) => ⟨k + 2 * i, k + 2 * i + 1⟩
def Zqa (k : Int) (n : Nat) : List Token := (List.range n).map fun (i : Nat) => ⟨k + 4 * i, k + 4 * i + 1, k + 4 * i + 2, k + 4 * i + 3⟩
def Zps (k : Int) (n : Nat) : List GEdge := (List.range n).map fun (i : Nat) => ⟨k + 4 * i, k + 4 * i + 1, k + 4 * i + 2, k + 4 * i + 3⟩
def Zvk (k : Int) (n : Nat) : List Int := (List.range n).map fun (i : Nat) => k + i
@[simp] theorem mkPair_len (k : Int) (n : Nat) : (Zkx k n).length = n := by simp [Zkx]
@[simp] theorem mkToken_len (k : Int) (n : Nat) : (Zqa k n).length = n := by simp [Zqa]
@[simp] theorem mkGEdge_len (k : Int) (n : Nat) : (Zps k n).length = n := by simp [Zps]
@[simp] theorem mkInt_len (k : Int) (n : Nat) : (Zvk k n).length = n := by simp [Zvk]
theorem Zux (a : List Pair) {i : Nat} (hi : i < a.length) {kk k : Int} (h : kk = k + 2 * i) : (Zkx k i ++ a.drop i).set i ⟨kk, kk + 1⟩ = Zkx k (i + 1) ++ a.drop (i + 1) := by
 subst h
 have h2 := Zje a (fun (q : Nat) => (⟨k + 2 * q, k + 2 * q + 1⟩ : Pair)) hi
 unfold Zkx
 refine Eq.trans (congrArg _ ?_) h2
 simp only [Int.add_assoc]
 all_goals rfl
end Go.KLib

namespace Go.KLib
open Go.ChangeShapes Go.WideShapes Go.ChangeAt Go.RowKit Go.Deep Go.Joins
section
variable {H : Type} {enc : TypeId × Value → H} {P : Program} {w : World} {base : Nat} {spare : Nat → Bool} {held : Bool}
theorem Zur {α : Type} {n : Nat} {Q : Nat → α → Prop} (h : ∀ i, i < n → ∃ x, Q i x) : ∃ xs : List α, xs.length = n ∧ ∀ i x, xs[i]? = some x → Q i x := by
 induction n with
 | zero => exact ⟨[], rfl, fun i x hx => by simp at hx⟩
 | succ n ih =>
  obtain ⟨xs, hl, hq⟩ := ih fun i hi => h i (by omega)
  obtain ⟨x, hx⟩ := h n (by omega)
  refine ⟨xs ++ [x], by simp [hl], fun i y hy => ?_⟩
  rcases Nat.lt_or_ge i xs.length with hi | hi
  ·exact hq i y (by rwa [List.getElem?_append_left hi] at hy)
  have hlt := (List.getElem?_eq_some_iff.1 hy).1
  simp at hlt
  have : i = n := by omega
  subst this
  rw [List.getElem?_append_right hi, hl, Nat.sub_self] at hy
  simp at hy
  subst hy
  exact hx
theorem Zul {α : Type} {cs : α → List Value} {k : Nat} {t e : TypeId} {fuel : Nat} {v : Value} {x : DataW H × List MemPlace} (ht : P.underlying t = some (.slice e)) (hk : P.cellsOf e = k) (hk0 : 0 < k) (hc : ∀ x, (cs x).length = k)
   (he : ∀ fuel vs y, vs.length = k → DataW.trod enc P w base spare held fuel e vs = some y → ∃ x : α, vs = cs x) (h : DataW.trod enc P w base spare held fuel t [v] = some x) : ∃ xs : List α, Ls cs k w 0 w.heap.size v xs := by
 rcases open_slice ht h with ⟨h0, _⟩ | ⟨a, len, cap, m, n, D, Pl, h0, _, hl, hm, hmm, _, hi⟩
 ·injection h0 with h0
  subst h0
  exact ⟨[], Ls.nil w _ _⟩
 injection h0 with h0
 subst h0
 have hlm : len ≤ m := by rw [hmm]; split <;> omega
 obtain ⟨xs, hxl, hx⟩ := Zur (n := len) (Q := fun i (x : α) => ∀ j u, (cs x)[j]? = some u → w.cell? (a.add (i * k + j)) = some u) fun i hlt => by
  obtain ⟨cs', hcs, htr⟩ := hi i (by omega)
  obtain ⟨_, hcl, hat⟩ := World.cells?_some hcs
  rw [hk] at hcl hat
  obtain ⟨y, hy⟩ := he _ _ _ hcl htr
  refine ⟨y, fun j u hu => ?_⟩
  have hj : j < k := by have := (List.getElem?_eq_some_iff.1 hu).1; rw [hc] at this; exact this
  have h1 := hat j hj
  rw [hy, hu, Go.KLib.add_add] at h1
  exact h1
 refine ⟨xs, Sl.here (L := 0) (B := a.block + 1) ⟨flat_len hc xs, some a, cap, by rw [hxl], by omega, hm, fun _ => ⟨a, rfl, ⟨Nat.zero_le _, Nat.lt_succ_self _⟩, fun j u hu => ?_⟩⟩ hk0⟩
 have hjl : j < xs.length * k := by have := (List.getElem?_eq_some_iff.1 hu).1; rwa [flat_len hc] at this
 have hd : j / k < xs.length := Nat.div_lt_of_lt_mul (by rwa [Nat.mul_comm])
 have hg := Zhh hc xs (j / k) xs[j / k] (List.getElem?_eq_getElem hd)
 have h2 := hx (j / k) xs[j / k] (List.getElem?_eq_getElem hd) (j % k) u (by
  rw [← hg, List.getElem?_take, if_pos (Nat.mod_lt _ hk0), List.getElem?_drop, Nat.mul_comm, Nat.div_add_mod]
  exact hu)
 rwa [Nat.mul_comm, Nat.div_add_mod] at h2
theorem Zmn {r : Reach} {b0 : Nat} {t e : TypeId} {v : Value} {d : DataW H} {p : List MemPlace} (hs : P.underlying t = some (.slice e)) (hv : Value.okWide P w r b0 t v) (h : DataW.Trod enc P w base spare held t v d p) :
   ∃ fuel x, DataW.trod enc P w base spare held fuel t [v] = some x := by
 obtain ⟨a, len, cap, rfl⟩ := okWide_slice hs hv
 obtain ⟨fuel, hf⟩ := h
 exact ⟨fuel, _, hf⟩
theorem Zgq {W W' : World} (hl : laidOutB P = true) (hb : Ch [] W W') : ∀ (ts : List TypeId) (vs : List Value) (ds : List (DataW H)) (ps : List MemPlace), (∀ t ∈ ts, P.readableRec t = true ∧ t < P.types.size) →
   (∀ x ∈ ps, x.block < W.heap.size) → DataW.TrodAll enc P W 0 (fun _ => true) true ts vs ds ps → DataW.TrodAll enc P W' 0 (fun b => decide (b < W.heap.size)) true ts vs ds ps
 | [], [], [], ps, _, _, h => h
 | t :: ts, v :: vs, d :: ds, ps, hts, hps, h => by
  obtain ⟨p, q, h1, h2, rfl⟩ := h
  exact ⟨p, q, Below.trod hl (hts t (by simp)).1 (hts t (by simp)).2 h1 hb.below (fun x hx => hps x (by simp [hx])),
   Zgq hl hb ts vs ds q (fun t' ht' => hts t' (by simp [ht'])) (fun x hx => hps x (by simp [hx])) h2, rfl⟩
 | [], v :: vs, _, _, _, _, h => by simp [DataW.TrodAll] at h
 | [], [], d :: ds, _, _, _, h => by simp [DataW.TrodAll] at h
 | t :: ts, [], _, _, _, _, h => by simp [DataW.TrodAll] at h
 | t :: ts, v :: vs, [], _, _, _, h => by simp [DataW.TrodAll] at h
theorem Zsf {fn : Func} {s : ChangeSpec} {W W' : World} {args : Array Value} {ds : List (DataW H)} {ps : List MemPlace} {tb : TypeId} (hl : laidOutB P = true) (hts : fn.params.toList.all (fun t => P.readableRec t && decide (t < P.types.size)) = true)
   (hr : fn.resultTypes = #[tb]) (htb : P.underlying tb = some .bool) (hvars : s.vars = []) (hfn : s.fn H (ds ++ []) = { results := [.lit (.bool true)], args := ds })
   (hW : DataW.Whole enc P fn.params.toList s.vars false W args.toList ds [] ps) (hb : Ch [] W W') :
   s.post enc P fn false true false false W args (.bool true) W' := by
 have hW0 := hW
 obtain ⟨p, q, hA, hV, rfl, _, _⟩ := hW
 rw [hvars] at hV
 have hq : q = [] := hV
 subst hq
 have hlt : ∀ x ∈ p, x.block < W.heap.size := fun x hx => hW0.lt x (by simpa using hx)
 refine ⟨ds, [], _, [], p, [], hW0, ?_, ?_, ?_, hb.below.frame _, fun h => by cases h⟩
 ·rw [hfn, hr]
  exact trodAll_mk1 (shut_bool htb true)
 ·rw [hfn]
  refine Zgq hl hb _ _ _ _ (fun t ht => ?_) hlt hA
  have := List.all_eq_true.1 hts t ht
  simpa using this
 rw [hfn, hvars]
 exact rfl
end
end Go.KLib

namespace Go.KLib
def evp (l : KL) : List (Nat × Operand) → Option (List (Nat × Value))
 | [] => some []
 | p :: ps => match ev l p.2, evp l ps with
  | some v, some vs => some ((p.1, v) :: vs)
  | _, _ => none
theorem Zml {l : KL} {ρ : Operand → Value} (hρ : ∀ x u, ev l x = some u → ρ x = u) : ∀ (ps : List (Nat × Operand)) (vs : List (Nat × Value)), evp l ps = some vs → ps.map (fun p => (p.1, ρ p.2)) = vs
 | [], vs, h => by simp [evp] at h; simp [h]
 | p :: ps, vs, h => by
  simp only [evp] at h
  cases h1 : ev l p.2 with
  | none => simp [h1] at h
  | some u =>
   cases h2 : evp l ps with
   | none => simp [h1, h2] at h
   | some us =>
    simp [h1, h2] at h
    rw [List.map_cons, hρ p.2 u h1, Zml hρ ps us h2, h]
def Znx (place : Nat → Option (Nat × Nat)) (cells : List Value) : List (Nat × Value) → Option (List Value)
 | [] => some cells
 | p :: rest => match place p.1 with
  | none => none
  | some q => bif Nat.beq p.2.cells.size q.2 && Nat.ble (q.1 + q.2) cells.length then Znx place (cells.take q.1 ++ p.2.cells.toList ++ cells.drop (q.1 + q.2)) rest else none
theorem Zqm (vs : List Value) : ∀ (o i : Nat) (cells : List Value), o + i + vs.length ≤ cells.length →
   ((vs.zipIdx i).foldl (fun (cs : Array Value) (p : Value × Nat) => cs.setIfInBounds (o + p.2) p.1) cells.toArray) = (cells.take (o + i) ++ vs ++ cells.drop (o + i + vs.length)).toArray := by
 induction vs with
 | nil => intro o i cells _; simp
 | cons v vs ih =>
  intro o i cells h
  simp only [List.length_cons] at h
  rw [List.zipIdx_cons, List.foldl_cons]
  have e : (cells.toArray.setIfInBounds (o + i) v) = (cells.set (o + i) v).toArray := by simp
  rw [e, ih o (i + 1) (cells.set (o + i) v) (by simp; omega)]
  congr 1
  have hlt : o + i < cells.length := by omega
  apply List.ext_getElem?
  intro q
  simp only [List.getElem?_append, List.getElem?_take, List.getElem?_drop, List.getElem?_set, List.length_append, List.length_take, List.length_set, List.length_cons]
  rcases Nat.lt_trichotomy q (o + i) with h1 | h1 | h1
  ·simp [show q < min (o + (i + 1)) cells.length by omega, show q < min (o + i) cells.length by omega, show q < o + (i + 1) by omega, show ¬ o + i = q by omega, h1, show q < min (o + (i + 1)) cells.length + vs.length by omega, show q < min (o + i) cells.length + (vs.length + 1) by omega]
  ·subst h1
   simp [show o + i < min (o + (i + 1)) cells.length by omega, show o + i < o + (i + 1) by omega, hlt, show o + i < min (o + (i + 1)) cells.length + vs.length by omega, show min (o + i) cells.length = o + i by omega]
  have e1 : min (o + (i + 1)) cells.length = o + i + 1 := by omega
  have e2 : min (o + i) cells.length = o + i := by omega
  rw [e1, e2]
  by_cases h2 : q < o + i + 1 + vs.length
  ·rw [if_pos h2, if_neg (by omega), if_pos (by omega), if_neg (by omega)]
   rw [show q - (o + i) = (q - (o + i + 1)) + 1 from by omega, List.getElem?_cons_succ]
  rw [if_neg h2, if_neg (by omega), if_neg (by omega)]
  congr 1
  omega
theorem Zfv (place : Nat → Option (Nat × Nat)) : ∀ (parts : List (Nat × Value)) (cells cells' : List Value), Znx place cells parts = some cells' → Instr.fill place cells.toArray parts = some cells'.toArray
 | [], cells, cells', h => by simp [Znx] at h; simp [Instr.fill, h]
 | p :: rest, cells, cells', h => by
  obtain ⟨i, v⟩ := p
  simp only [Znx] at h
  cases hp : place i with
  | none => simp [hp] at h
  | some q =>
   obtain ⟨off, size⟩ := q
   simp only [hp] at h
   cases hc : (Nat.beq v.cells.size size && Nat.ble (off + size) cells.length) with
   | false => simp [hc] at h
   | true =>
    simp only [hc, cond_true] at h
    simp only [Bool.and_eq_true] at hc
    have h1 : v.cells.size = size := Nat.eq_of_beq_eq_true hc.1
    have h2 : off + size ≤ cells.length := Nat.le_of_ble_eq_true hc.2
    have ih := Zfv place rest _ _ h
    simp only [Instr.fill, hp]
    rw [if_neg (by simp [h1, h2])]
    have hf := Zqm v.cells.toList off 0 cells (by rw [Array.length_toList, h1]; omega)
    simp only [Nat.add_zero, Array.length_toList, h1] at hf
    rw [← ih, ← hf]
    congr 1
    rw [← Array.foldl_toList, Array.toList_zipIdx]
def Qp (P : Program) (t : TypeId) : Option (List (Nat × Nat)) :=
 match P.underlying t with
 | some (.struct fs) => fs.toList.mapM fun f => (Yg P f.type).map fun s => (f.offset, s)
 | _ => none
section
variable {P : Program} {w : World} {l : KL} {dst : Option Tmp} {ty : TypeId} {pos : String} {aft : Array Go.Edge} {gd : Option (Nat × Bool)} {K : Value → World → Prop}
theorem Zof {fs : List Field} {pl : List (Nat × Nat)} (h : fs.mapM (fun f => (Yg P f.type).map fun s => (f.offset, s)) = some pl) :
   (fs.mapM (m := Sem) fun f => do pure (f.offset, ← sizeOf f.type)).run P w = .ok pl w := by
 induction fs generalizing pl with
 | nil => simp at h; simp [h]
 | cons f fs ih =>
  simp only [List.mapM_cons] at h
  cases hs : Yg P f.type with
  | none => simp [hs] at h
  | some s =>
   cases hr : fs.mapM (fun f => (Yg P f.type).map fun s => (f.offset, s)) with
   | none => simp [hs, hr] at h
   | some rs =>
    simp [hs, hr] at h
    simp only [List.mapM_cons, Sem.run_bind, Zar hs, Result.andThen_ok, Sem.run_pure, ih hr, h]
theorem Yt {t : TypeId} {parts : List (Nat × Operand)} {vs : List (Nat × Value)} {pl : List (Nat × Nat)} {z : Value} {cells : List Value} (hz : Xg P t = some z) (hp : Qp P t = some pl) (hv : evp l parts = some vs)
   (hf : Znx (fun (i : Nat) => pl[i]?) z.cells.toList vs = some cells) : Qu P l ⟨dst, .build t parts.toArray, ty, pos, aft, gd⟩ w (.agg cells.toArray) w := fun ρ hρ => by
 unfold Qp at hp
 cases hu : P.underlying t with
 | none => simp [hu] at hp
 | some d =>
  cases d with
  | struct fs =>
   simp only [hu] at hp
   have h1 := Zml hρ parts vs hv
   have h2 : (fs.mapM (m := Sem) fun f => do pure (f.offset, ← sizeOf f.type)).run P w = .ok pl.toArray w := by
    rw [← Array.toArray_toList (xs := fs), List.mapM_toArray]
    simp only [Sem.run_map, Zof hp, Result.andThen_ok]
   have h3 := Zfv (fun (i : Nat) => pl[i]?) vs z.cells.toList cells hf
   have h4 : (parts.toArray.map fun p => (p.1, ρ p.2)) = vs.toArray := by rw [List.map_toArray, h1]
   have h5 : (fun (i : Nat) => pl.toArray[i]?) = fun (i : Nat) => pl[i]? := by funext i; simp
   simp only [Array.toArray_toList] at h3
   simp only [execOp, h4, Instr.build, Sem.run_bind, Zfb hz, Result.andThen_ok, run_underlying hu, h2, h5, h3, Sem.run_pure]
  | _ => simp [hu] at hp
variable {α : Type} {cs : α → List Value} {e k : Nat}
theorem Zr {t : TypeId} {n : Nat} {parts : List (Nat × Operand)} {vs : List (Nat × Value)} {z : Value} (z0 : α) (ys : List α) (ht : elB P t = some e) (hk : Yg P e = some k) (hz : Xg P e = some z) (hc : ∀ x, (cs x).length = k) (hk0 : 0 < k) (hzc : z.cells.toList = cs z0)
   (hv : evp l parts = some vs) (hn : ys.length = n) (hp : 0 < n) (hn0 : n * k ≤ 16777216) (hf : Znx (fun i => some (i * k, k)) ((List.replicate n z0).flatMap cs) vs = some (ys.flatMap cs))
   (kk : ∀ v w', Ol cs e k w' v ys → Lo w.heap.size v → Ch [] w w' → K v w') : Step P l ⟨dst, .buildSlice t n parts.toArray, ty, pos, aft, gd⟩ w K := by
 have hpk : 0 < n * k := Nat.mul_pos hp hk0
 have h0 : (Array.range (n * k)).map (z.cells[· % z.cells.size]!) = ((List.replicate n z0).flatMap cs).toArray := by
  have := Zqn hzc hc hk0 n
  rw [← this]
  unfold madeCells
  rw [Array.toArray_toList]
 have h3 := Zfv (fun i => some (i * k, k)) vs _ _ hf
 refine Step.of (v := .slice (some ⟨w.heap.size, 0, none⟩) n n) (w' := w.alloc (.cells (ys.flatMap cs).toArray e)) (fun ρ hρ => ?_) (kk _ _ ?_ (fun g hg => by simp [bl, Value.ownBlock] at hg; omega) (Ch.alloc w _))
 ·have h1 := Zml hρ parts vs hv
  have h4 : (parts.toArray.map fun p => (p.1, ρ p.2)) = vs.toArray := by rw [List.map_toArray, h1]
  have hlim : ¬ (n * k > 2 ^ 24) := by omega
  have hne : ¬ (n * k = 0) := by omega
  simp only [execOp, h4, Instr.buildSlice, Sem.run_bind, run_underlying (Zbu ht), Result.andThen_ok, Zar hk, hlim, if_false, hne, Zfb hz, Sem.run_pure, h0, h3]
  simp [newRow]
 have hm : n ≤ maxLen := by
  have : n ≤ n * k := Nat.le_mul_of_pos_right _ hk0
  simp only [maxLen]; omega
 have := Ow.made w e k n (ys.flatMap cs).toArray n (Nat.le_refl _) hm (by simp [flat_len hc, hn])
 have hl : (ys.flatMap cs).length = n * k := by rw [flat_len hc, hn]
 rw [List.toList_toArray, List.take_of_length_le (by omega)] at this
 subst hn
 exact this
theorem Xt {t : TypeId} (cs : α → List Value) (ht : elB P t = some e) (hk : Yg P e = some k)
   (kk : ∀ v w', Ol cs e k w' v ([] : List α) → Lo w.heap.size v → Ch [] w w' → K v w') : Step P l ⟨dst, .buildSlice t 0 #[], ty, pos, aft, gd⟩ w K := by
 have e0 : Array.range 0 = #[] := rfl
 refine Step.of (v := .slice (some ⟨w.heap.size, 0, none⟩) 0 0) (w' := w.alloc (.cells #[] e)) (fun ρ _ => ?_) (kk _ _ ?_ (fun g hg => by simp [bl, Value.ownBlock] at hg; omega) (Ch.alloc w _))
 ·simp [execOp, Instr.buildSlice, run_underlying (Zbu ht), Zar hk, Instr.fill, newRow, e0]
 have h := Ow.made w e k 0 #[] 0 (Nat.le_refl _) (Nat.zero_le _) (by simp)
 simp only [Nat.zero_mul, List.take_zero] at h
 exact h
end
end Go.KLib

namespace Go.KLib
noncomputable def tt (p : Prop) : Bool := @decide p (Classical.propDecidable p)
theorem Zgn {p : Prop} : tt p = true ↔ p := by unfold tt; exact @decide_eq_true_iff p (Classical.propDecidable p)
theorem Zq {p : Prop} (h : p) : true = tt p := (Zgn.2 h).symm
theorem Zo {p : Prop} (h : ¬ p) : false = tt p := by
 cases e : tt p
 ·rfl
 exact absurd (Zgn.1 e) h
theorem Zns {p q : Prop} (h : p ↔ q) : tt p = tt q := by
 cases e : tt q
 ·exact (Zo (fun hp => by rw [Zgn.2 (h.1 hp)] at e; cases e)).symm
 exact Zgn.2 (h.2 (Zgn.1 e))
theorem bt_t {p : Prop} (h : tt p = true) : p := Zgn.1 h
theorem bf_t {p : Prop} (h : tt p = false) : ¬ p := fun hp => by rw [Zgn.2 hp] at h; cases h
def Zuy (a b : Pair) : Prop := a.f < b.f ∨ (a.f = b.f ∧ a.t < b.t)
def iand (x y : Int) : Int := IntKind.i64.wrap (BitVec.ofInt IntKind.i64.bits x &&& BitVec.ofInt IntKind.i64.bits y).toNat
def ior (x y : Int) : Int := IntKind.i64.wrap (BitVec.ofInt IntKind.i64.bits x ||| BitVec.ofInt IntKind.i64.bits y).toNat
def ixor (x y : Int) : Int := IntKind.i64.wrap (BitVec.ofInt IntKind.i64.bits x ^^^ BitVec.ofInt IntKind.i64.bits y).toNat
def ishl (x y : Int) : Int := IntKind.i64.wrap (x * 2 ^ (min y.toNat IntKind.i64.bits))
def ishr (x y : Int) : Int := x.fdiv (2 ^ (min y.toNat IntKind.i64.bits))
def w64 (x : Int) : Int := IntKind.i64.wrap x
section
variable {P : Program} {w : World} {l : KL} {dst : Option Tmp} {ty : TypeId} {pos : String} {aft : Array Go.Edge} {gd : Option (Nat × Bool)} {x y : Operand} {xt yt : TypeId} {a b : Int} {k : IntKind}
theorem Zgu (hx : ev l x = some (.int .i64 a)) (hy : ev l y = some (.int .i64 b)) : Qu P l ⟨dst, .binOp .and xt x y yt, ty, pos, aft, gd⟩ w (.int .i64 (iand a b)) w := fun ρ hρ => by
 simp [execOp, hρ _ _ hx, hρ _ _ hy, eqGuard, binOp, Op.intBits, iand]
theorem r_or (hx : ev l x = some (.int .i64 a)) (hy : ev l y = some (.int .i64 b)) : Qu P l ⟨dst, .binOp .or xt x y yt, ty, pos, aft, gd⟩ w (.int .i64 (ior a b)) w := fun ρ hρ => by
 simp [execOp, hρ _ _ hx, hρ _ _ hy, eqGuard, binOp, Op.intBits, ior]
theorem Zwp (hx : ev l x = some (.int .i64 a)) (hy : ev l y = some (.int .i64 b)) : Qu P l ⟨dst, .binOp .xor xt x y yt, ty, pos, aft, gd⟩ w (.int .i64 (ixor a b)) w := fun ρ hρ => by
 simp [execOp, hρ _ _ hx, hρ _ _ hy, eqGuard, binOp, Op.intBits, ixor]
theorem Ztp (h : 0 ≤ b) (hx : ev l x = some (.int .i64 a)) (hy : ev l y = some (.int k b)) : Qu P l ⟨dst, .binOp .shl xt x y yt, ty, pos, aft, gd⟩ w (.int .i64 (ishl a b)) w := fun ρ hρ => by
 have hn : ¬ b < 0 := by omega
 simp [execOp, hρ _ _ hx, hρ _ _ hy, eqGuard, binOp, Op.shift, hn, ishl]
theorem Zjk (h : 0 ≤ b) (hx : ev l x = some (.int .i64 a)) (hy : ev l y = some (.int k b)) : Qu P l ⟨dst, .binOp .shr xt x y yt, ty, pos, aft, gd⟩ w (.int .i64 (ishr a b)) w := fun ρ hρ => by
 have hn : ¬ b < 0 := by omega
 simp [execOp, hρ _ _ hx, hρ _ _ hy, eqGuard, binOp, Op.shift, hn, ishr]
theorem Zjs (hx : ev l x = some (.int .i64 a)) (hy : ev l y = some (.int .i64 b)) : Qu P l ⟨dst, .binOp .add xt x y yt, ty, pos, aft, gd⟩ w (.int .i64 (w64 (a + b))) w := Ztg hx hy
end
def accB (last : Int) (nl : Bool) (set : Int) : Bool := (decide (iand set 1 = 1) && nl) || !decide (iand (ishr set 1) last = 0)
def nxt (F : List Int) (set m0 : Int) : Nat → Int
 | 0 => m0
 | k + 1 => if iand (ishr set (k + 1)) 1 = 1 then ior (nxt F set m0 k) (F.getD k 0) else nxt F set m0 k
def outP (L : List Int) (nx letter : Int) : Nat → Int
 | 0 => 0
 | k + 1 => if L.getD k 0 = letter ∧ iand (ishr nx k) 1 = 1 then ior (outP L nx letter k) (ishl 1 (k + 1)) else outP L nx letter k
theorem Zri {F : List Int} {set m0 m y : Int} {k : Nat} (h : iand (ishr set (k + 1)) 1 = 1) (hm : m = nxt F set m0 k) (hy : F[k]? = some y) : ior m y = nxt F set m0 (k + 1) := by
 rw [nxt, if_pos h, ← hm, List.getD_eq_getElem?_getD, hy]; rfl
theorem Zre {F : List Int} {set m0 m : Int} {k : Nat} (h : ¬ iand (ishr set (k + 1)) 1 = 1) (hm : m = nxt F set m0 k) : m = nxt F set m0 (k + 1) := by
 rw [nxt, if_neg h]; exact hm
theorem Znq {L : List Int} {nx letter o y : Int} {k : Nat} (hy : L[k]? = some y) (h1 : y = letter) (h2 : iand (ishr nx k) 1 = 1) (ho : o = outP L nx letter k) : ior o (ishl 1 (k + 1)) = outP L nx letter (k + 1) := by
 rw [outP, if_pos ⟨by rw [List.getD_eq_getElem?_getD, hy]; exact h1, h2⟩, ho]
theorem Ziw {L : List Int} {nx letter o : Int} {k : Nat} (h2 : ¬ iand (ishr nx k) 1 = 1) (ho : o = outP L nx letter k) : o = outP L nx letter (k + 1) := by
 rw [outP, if_neg (fun e => h2 e.2)]; exact ho
theorem Ziy {L : List Int} {nx letter o y : Int} {k : Nat} (hy : L[k]? = some y) (h1 : ¬ y = letter) (ho : o = outP L nx letter k) : o = outP L nx letter (k + 1) := by
 rw [outP, if_neg (fun e => h1 (by have := e.1; rw [List.getD_eq_getElem?_getD, hy] at this; exact this))]; exact ho
def Zgi (L : List Int) (first : Int) (F : List Int) (set letter : Int) : Int := outP L (nxt F set (if iand set 1 = 1 then first else 0) L.length) letter L.length
end Go.KLib

namespace Go.KLib
end Go.KLib

namespace Go.KLib
section
variable {P : Program} {w : World}
theorem Zeu {t ty e : TypeId} {i : TypeInfo} (ht : P.underlying t = some (.slice e)) (hi : P.info? e = some i)
   {g off n cap : Nat} {cur : Array Value} (hg : w.heap[g]? = some (.cells cur e (0, 0)))
   {a : Addr} {m c : Nat} {news : List Value} (hl : news.length = m * i.size) (hnews : ∀ j u, news[j]? = some u → w.cell? (a.add j) = some u) (h1 : ∀ u ∈ news, u.oneCell' = true)
   (hroom : n + m ≤ cap) (hfit : off + n * i.size + news.length ≤ cur.size) :
   (Builtin.append_ #[t, t] ty #[.slice (some ⟨g, off, none⟩) n cap, .slice (some a) m c]).run P w =
     .ok (.slice (some ⟨g, off, none⟩) (n + m) cap) (w.setRow g (cur.toList.take (off + n * i.size) ++ news ++ cur.toList.drop (off + n * i.size + news.length)).toArray) := by
 have hf := run_firstCells_some (P := P) w i.size m a m c news hl hnews
 have hst := run_storeCells_at P g (off + n * i.size) e news 0 cur w hg (by simpa using hfit) h1
 simp only [Nat.add_zero] at hst
 simp [Builtin.append_, run_underlying ht, sizeOf, typeInfo, hi, Builtin.lenOf, hroom, hf, Addr.add_lit, hst]
theorem Zik {t ty e : TypeId} {i : TypeInfo} (ht : P.underlying t = some (.slice e)) (hi : P.info? e = some i)
   {k n : Nat} {v : Value} {xs : List Value} {e' : TypeId} (ho : Ow w e' k v n xs) (c : Nat) : (Builtin.append_ #[t, t] ty #[v, .slice none 0 c]).run P w = .ok v w := by
 rcases ho.2 with ⟨rfl, rfl⟩ | ⟨g, off, cap, cur, rfl, _, hnc, _⟩
 ·simp [Builtin.append_, run_underlying ht, sizeOf, typeInfo, hi, Builtin.lenOf, Builtin.firstCells]
 simp [Builtin.append_, run_underlying ht, sizeOf, typeInfo, hi, Builtin.lenOf, Builtin.firstCells, hnc, storeCells]
theorem Ow.append {t ty e : TypeId} {k by_ n m L B : Nat} {z v u : Value} {xs ys : List Value} (ht : elB P t = some e) (hk : Yg P e = some k) (hb : Qw P e = some by_) (hz : Xg P e = some z)
    (hzs : z.cells.size = k) (hk0 : 0 < k) (ho : Ow w e k v n xs) (hs : Sl w L B k u m ys) (h1 : ∀ y ∈ ys, y.oneCell' = true) (h63 : n + m ≤ 9223372036854775807) (hbytes : (n + m) * by_ ≤ 140737488355328) :
    ∃ v' w', (Builtin.append_ #[t, t] ty #[v, u]).run P w = .ok v' w' ∧ Ow w' e k v' (n + m) (xs ++ ys) ∧ Ch (bl v) w w' ∧ (bl v' = bl v ∨ bl v' = [w.heap.size]) := by
  obtain ⟨i, hi, hiz, his, hib⟩ := Zuk hk hb hz
  have hel := Zbu ht
  obtain ⟨hyl, A, c, rfl, hmc, hcm, hA⟩ := hs
  have hmx : n + m ≤ maxLen := by simp only [maxLen]; omega
  have hlen : (xs ++ ys).length = (n + m) * k := by rw [List.length_append, ho.1, hyl, Nat.add_mul]
  rcases A with _ | ad
  · have hm : m = 0 := by
      rcases Nat.eq_zero_or_pos m with h | h
      · exact h
      · obtain ⟨ad, h2, _⟩ := hA h; cases h2
    subst hm
    have hys : ys = [] := List.eq_nil_of_length_eq_zero (by simpa using hyl)
    subst hys
    exact ⟨v, w, Zik hel hi ho c, by simpa using ho, Ch.refl _ _, .inl rfl⟩
  · have hcells : ∀ j u, ys[j]? = some u → w.cell? (ad.add j) = some u := by
      intro j u hu
      rcases Nat.eq_zero_or_pos m with h | h
      · subst h
        have hys : ys = [] := List.eq_nil_of_length_eq_zero (by simpa using hyl)
        subst hys; simp at hu
      · obtain ⟨ad', h2, ha⟩ := hA h
        injection h2 with h2; subst h2
        exact ha.cell j hu
    have grown : ∀ (old : Nat), old < n + m → ∃ cap,
        Ow (w.drew.alloc (.cells (xs.toArray ++ ys.toArray ++ Builtin.zeroCells z.cells (grownCap w (n + m) old e - (n + m))) e)) e k (.slice (some ⟨w.heap.size, 0, none⟩) (n + m) cap) (n + m) (xs ++ ys) ∧ cap = grownCap w (n + m) old e := by
      intro old hold
      have hge := grownCap_ge w (n + m) old e
      have hcm' : grownCap w (n + m) old e ≤ maxLen := grownCap_le_maxLen w (n + m) old e hmx
      refine ⟨_, ⟨hlen, .inr ⟨w.heap.size, 0, _, _, rfl, heap_alloc_new w.drew _, hge, hcm', ?_, ?_⟩⟩, rfl⟩
      · simp only [Array.size_append, List.size_toArray, size_zeroCells, hzs, ho.1, hyl, ← Nat.add_mul]
        refine Nat.le_of_eq ?_
        rw [Nat.zero_add]; congr 1; omega
      · simp only [Array.toList_append, List.append_assoc, List.drop_zero]
        rw [← List.append_assoc, ← hlen]
        exact List.take_left
    have grow : ∀ o, Ch (bl v) w (w.drew.alloc o) := fun o => ⟨rfl, rfl, rfl, by simp, fun j hj _ => heap_alloc_old w.drew _ hj⟩
    subst his hib
    rcases ho.2 with ⟨rfl, rfl⟩ | ⟨g, off, cap, cur, rfl, hg, hnc, hcp, hcs, htake⟩
    · have hx : xs = [] := List.eq_nil_of_length_eq_zero (by simpa using ho.1)
      subst hx
      by_cases hm : m = 0
      · subst hm
        have hys : ys = [] := List.eq_nil_of_length_eq_zero (by simpa using hyl)
        subst hys
        refine ⟨.slice none 0 0, w, ?_, Ow.nil w e _, Ch.refl _ _, .inl rfl⟩
        simp [Builtin.append_, run_underlying hel, sizeOf, typeInfo, hi, Builtin.lenOf, Builtin.firstCells, loadCells, loadCellsFrom]
      · have hr := run_append_nil (P := P) w t ty e i z hel hi hiz ad m c ys hyl hcells (by omega) (by omega) (by simp only [Nat.zero_add] at hbytes; omega)
        obtain ⟨cp, h2, rfl⟩ := grown 0 (by omega)
        simp only [Nat.zero_add, List.nil_append, Array.empty_append] at h2 ⊢
        exact ⟨_, _, hr, h2, grow _, .inr rfl⟩
    · by_cases hroom : n + m ≤ cap
      · have hfit : off + n * i.size + ys.length ≤ cur.size := by
          have := Nat.mul_le_mul_right i.size hroom
          rw [hyl]; rw [Nat.add_mul] at this; omega
        have hr := Zeu (P := P) (ty := ty) (c := c) hel hi hg hyl hcells h1 hroom hfit
        refine ⟨_, _, hr, ⟨hlen, .inr ⟨g, off, cap, _, rfl, setRow_heap w g cur _ e _ hg, hroom, hcp, ?_, ?_⟩⟩, ⟨rfl, rfl, rfl, by simp [World.setRow], fun j _ hj => setRow_other w g j _ (fun e => hj (by simp [bl, Value.ownBlock, e]))⟩, .inl rfl⟩
        · simp only [List.size_toArray, List.length_append, List.length_take, List.length_drop, Array.length_toList]
          omega
        · have hto : (cur.toList.take (off + n * i.size)).drop off = xs := by
            rw [← htake, List.drop_take]; congr 1; omega
          have hol : off ≤ (cur.toList.take (off + n * i.size)).length := by rw [List.length_take, Array.length_toList]; omega
          show ((((cur.toList.take (off + n * i.size)) ++ ys ++ _).toArray).toList.drop off).take _ = _
          rw [show (∀ l : List Value, l.toArray.toList = l) from fun _ => rfl, List.append_assoc, List.drop_append_of_le_length hol, hto, ← List.append_assoc, ← hlen]
          exact List.take_left
      · have holds : ∀ j u, xs[j]? = some u → w.cell? ((⟨g, off, none⟩ : Addr).add j) = some u := fun j u hu => by rw [add_lit]; exact ho.cells rfl j u hu
        have hr := run_append_grow (P := P) w t ty e i z hel hi hiz ⟨g, off, none⟩ n cap xs ho.1 holds ad m c ys hyl hcells (by omega) (by omega) (growslice_fits (by omega) hbytes)
        obtain ⟨cp, h2, rfl⟩ := grown cap (by omega)
        exact ⟨_, _, hr, h2, grow _, .inr rfl⟩
variable {α : Type} {cs : α → List Value} {l : KL} {K : Value → World → Prop} {dst : Option Tmp} {pos : String} {aft : Array Go.Edge} {gd : Option (Nat × Bool)}
theorem Yj {s x : Operand} {t ty e : TypeId} {k by_ L B B0 : Nat} {z v u : Value} {xs ys : List α} (ht : elB P t = some e) (hk : Yg P e = some k) (hb : Qw P e = some by_) (hz : Xg P e = some z)
   (hzs : z.cells.size = k) (hk0 : 0 < k) (h1 : ∀ x, ∀ y ∈ cs x, y.oneCell' = true) (ho : Ol cs e k w v xs) (hs : Ls cs k w L B u ys) (hx : ev l s = some v) (hy : ev l x = some u)
   (hbytes : (xs.length + ys.length) * by_ ≤ 140737488355328) (h63 : xs.length + ys.length ≤ 9223372036854775807) (hlo : Lo B0 v) (hB : B0 ≤ w.heap.size)
   (kk : ∀ v' w', Ol cs e k w' v' (xs ++ ys) → Lo B0 v' → (bl v' = bl v ∨ bl v' = [w.heap.size]) → Ch (bl v) w w' → K v' w') :
   Step P l ⟨dst, .call { callee := .builtin .append, args := #[s, x], argTypes := #[t, t] }, ty, pos, aft, gd⟩ w K := by
 obtain ⟨v', w', hr, h2, h3, h4⟩ := Ow.append (ty := ty) ht hk hb hz hzs hk0 ho hs (fun y hy => by obtain ⟨a, _, ha⟩ := List.mem_flatMap.1 hy; exact h1 a y ha) h63 hbytes
 refine Step.of (v := v') (w' := w') (fun ρ hρ => ?_) (kk v' w' ?_ ?_ h4 h3)
 ·unfold execOp
  simp only [resolve, invoke, builtin, Sem.run_bind, Sem.run_pure, Result.andThen_ok, List.map_toArray, List.map_cons, List.map_nil, hρ _ _ hx, hρ _ _ hy, hr]
 ·show Ow w' e k v' (xs ++ ys).length ((xs ++ ys).flatMap cs)
  rw [List.length_append, List.flatMap_append]; exact h2
 intro g hg
 rcases h4 with h4 | h4
 ·rw [h4] at hg; exact hlo g hg
 rw [h4] at hg; have := List.mem_singleton.1 hg; omega
end
theorem Xz (x : Int) : ∀ y ∈ ics x, y.oneCell' = true := by intro y hy; simp [ics] at hy; subst hy; rfl
theorem Zaz (x : Bool) : ∀ y ∈ bcs x, y.oneCell' = true := by intro y hy; simp [bcs] at hy; subst hy; rfl
theorem Pair.one (x : Pair) : ∀ y ∈ x.cs, y.oneCell' = true := by intro y hy; simp [Pair.cs] at hy; rcases hy with rfl | rfl <;> rfl
theorem Token.one (x : Token) : ∀ y ∈ x.cs, y.oneCell' = true := by intro y hy; simp [Token.cs] at hy; rcases hy with rfl | rfl | rfl | rfl <;> rfl
theorem GEdge.one (x : GEdge) : ∀ y ∈ x.cs, y.oneCell' = true := by intro y hy; simp [GEdge.cs] at hy; rcases hy with rfl | rfl | rfl | rfl <;> rfl
structure Sv where
 A : Option Addr
 n : Nat
 c : Nat
def Sv.v (s : Sv) : Value := .slice s.A s.n s.c
def Sv.cs (s : Sv) : List Value := [.slice s.A s.n s.c]
theorem Sv.len (s : Sv) : s.cs.length = 1 := rfl
theorem Sv.one (x : Sv) : ∀ y ∈ x.cs, y.oneCell' = true := by intro y hy; simp [Sv.cs] at hy; subst hy; rfl
def Rd {α : Type} (cs : α → List Value) (k : Nat) (w : World) (L B : Nat) (vs : List Sv) (xs : List (List α)) : Prop :=
 vs.length = xs.length ∧ ∀ (i : Nat) (v : Sv) (x : List α), vs[i]? = some v → xs[i]? = some x → Ls cs k w L B v.v x
section
variable {α : Type} {cs : α → List Value} {k L L' B B' : Nat} {w w' : World} {vs : List Sv} {xs : List (List α)} {ws : List Nat}
theorem Rd.ch (h : Rd cs k w L B vs xs) (c : Ch ws w w') (hw : ∀ i ∈ ws, i < L ∨ B ≤ i) : Rd cs k w' L B vs xs := ⟨h.1, fun i v x a b => (h.2 i v x a b).ch c hw⟩
theorem Rd.ch0 (h : Rd cs k w L B vs xs) (c : Ch [] w w') : Rd cs k w' L B vs xs := h.ch c (by simp)
theorem Rd.up (h : Rd cs k w L B vs xs) (hL : L' ≤ L) (hB : B ≤ B') : Rd cs k w L' B' vs xs := ⟨h.1, fun i v x a b => (h.2 i v x a b).up hL hB⟩
theorem Rd.here (h : Rd cs k w L B vs xs) (hk : 0 < k) : Rd cs k w L w.heap.size vs xs := ⟨h.1, fun i v x a b => (h.2 i v x a b).here hk⟩
theorem Rd.nil : Rd cs k w L B [] ([] : List (List α)) := ⟨rfl, fun _ _ _ h => by simp at h⟩
theorem Rd.cons {v : Sv} {x : List α} (h : Ls cs k w L B v.v x) (r : Rd cs k w L B vs xs) : Rd cs k w L B (v :: vs) (x :: xs) := by
 refine ⟨by simp [r.1], fun i u y a b => ?_⟩
 cases i with
 | zero => simp at a b; subst a b; exact h
 | succ i => exact r.2 i u y (by simpa using a) (by simpa using b)
theorem Rd.get (h : Rd cs k w L B vs xs) {i : Nat} {y : Sv} (hy : vs[i]? = some y) : ∃ x, xs[i]? = some x ∧ Ls cs k w L B y.v x := by
 have hi := (List.getElem?_eq_some_iff.1 hy).1
 have hx : xs[i]? = some (xs[i]'(by have := h.1; omega)) := List.getElem?_eq_getElem _
 exact ⟨_, hx, h.2 i y _ hy hx⟩
theorem Ls.eqn {A : Option Addr} {n c : Nat} {x : List α} (h : Ls cs k w L B (Sv.v ⟨A, n, c⟩) x) : n = x.length := by
 obtain ⟨_, A', c', e, _⟩ := h
 unfold Sv.v at e
 injection e
end
end Go.KLib

namespace Go.KLib
def isK (e : List Token) (k : Int) : Bool := decide (e.length = 1 ∧ (e.getD 0 ⟨0, 0, 0, 0⟩).kind = k)
end Go.KLib

namespace Go.KLib
open Go.ChangeShapes Go.WideShapes Go.ChangeAt Go.RowKit Go.Deep Go.Joins
def Od {α : Type} (cs : α → List Value) (e k : Nat) (w : World) (lo hi : Nat) (vs : List Sv) (xs : List (List α)) : Prop :=
 vs.length = xs.length ∧ (∀ (i : Nat) (v : Sv) (x : List α), vs[i]? = some v → xs[i]? = some x → Ol cs e k w v.v x ∧ ∀ g ∈ bl v.v, lo ≤ g ∧ g < hi) ∧
 ∀ (i j : Nat) (u v : Sv), vs[i]? = some u → vs[j]? = some v → i < j → ∀ g ∈ bl u.v, g ∉ bl v.v
section
variable {α : Type} {cs : α → List Value} {e k lo hi hi' : Nat} {w w' : World} {vs : List Sv} {xs : List (List α)} {ws : List Nat}
theorem Od.ch (h : Od cs e k w lo hi vs xs) (c : Ch ws w w') (hw : ∀ i ∈ ws, i < lo ∨ hi ≤ i) : Od cs e k w' lo hi vs xs :=
 ⟨h.1, fun i v x a b => ⟨(h.2.1 i v x a b).1.ch c fun g hg hm => by have h1 := (h.2.1 i v x a b).2 g hg; have h2 := hw g hm; omega, (h.2.1 i v x a b).2⟩, h.2.2⟩
theorem Od.ch0 (h : Od cs e k w lo hi vs xs) (c : Ch [] w w') : Od cs e k w' lo hi vs xs := h.ch c (by simp)
theorem Od.up {lo' : Nat} (h : Od cs e k w lo hi vs xs) (hl : lo' ≤ lo) (hh : hi ≤ hi') : Od cs e k w lo' hi' vs xs :=
 ⟨h.1, fun i v x a b => ⟨(h.2.1 i v x a b).1, fun g hg => by have h1 := (h.2.1 i v x a b).2 g hg; omega⟩, h.2.2⟩
theorem Od.rd (h : Od cs e k w lo hi vs xs) : Rd cs k w 0 w.heap.size vs xs := ⟨h.1, fun i v x a b => (h.2.1 i v x a b).1.ls⟩
theorem Od.get (h : Od cs e k w lo hi vs xs) {i : Nat} {y : Sv} (hy : vs[i]? = some y) : ∃ x, xs[i]? = some x ∧ Ls cs k w 0 w.heap.size y.v x := h.rd.get hy
theorem Od.nil : Od cs e k w lo hi [] ([] : List (List α)) := ⟨rfl, fun _ _ _ h => by simp at h, fun _ _ _ _ h => by simp at h⟩
theorem Zad {β : Type} {vs : List β} {v u : β} {i : Nat} (h : (vs ++ [v])[i]? = some u) : (i < vs.length ∧ vs[i]? = some u) ∨ (i = vs.length ∧ u = v) := by
 rcases Nat.lt_or_ge i vs.length with hl | hl
 ·rw [List.getElem?_append_left hl] at h; exact .inl ⟨hl, h⟩
 rw [List.getElem?_append_right hl] at h
 rcases Nat.eq_or_lt_of_le hl with he | he
 ·rw [← he] at h; simp at h; exact .inr ⟨he.symm, h.symm⟩
 rw [List.getElem?_eq_none (by simp; omega)] at h; cases h
theorem Od.snoc (h : Od cs e k w lo hi vs xs) {v : Sv} {x : List α} (ho : Ol cs e k w v.v x) (hl : Lo hi v.v) (hu : ∀ g ∈ bl v.v, g < hi') (hh : hi ≤ hi') (hlo : lo ≤ hi) : Od cs e k w lo hi' (vs ++ [v]) (xs ++ [x]) := by
 refine ⟨by simp [h.1], fun i u y a b => ?_, fun i j u u' a b hij => ?_⟩
 ·rcases Zad a with ⟨a1, a2⟩ | ⟨a1, a2⟩
  ·rcases Zad b with ⟨b1, b2⟩ | ⟨b1, b2⟩
   ·exact ⟨(h.2.1 i u y a2 b2).1, fun g hg => by have h1 := (h.2.1 i u y a2 b2).2 g hg; omega⟩
   have := h.1; omega
  rcases Zad b with ⟨b1, b2⟩ | ⟨b1, b2⟩
  ·have := h.1; omega
  subst a2 b2; exact ⟨ho, fun g hg => ⟨by have := hl g hg; omega, hu g hg⟩⟩
 rcases Zad b with ⟨b1, b2⟩ | ⟨b1, b2⟩
 ·rcases Zad a with ⟨a1, a2⟩ | ⟨a1, a2⟩
  ·exact h.2.2 i j u u' a2 b2 hij
  omega
 rcases Zad a with ⟨a1, a2⟩ | ⟨a1, a2⟩
 ·subst b2
  intro g hg hm
  have hx : xs[i]? = some (xs[i]'(by have := h.1; omega)) := List.getElem?_eq_getElem _
  have h1 := (h.2.1 i u _ a2 hx).2 g hg
  have h2 := hl g hm
  omega
 omega
end
theorem Zaw {β : Type} {xs : List β} {k : Nat} {y : β} (h : xs[k]? = some y) : xs.take (k + 1) = xs.take k ++ [y] := by rw [List.take_add_one, h]; rfl
theorem Qj {β : Type} {xs : List β} {k : Nat} {a b : β} (h : xs[k]? = some a) (h' : xs[k]? = some b) : a = b := by rw [h] at h'; injection h'
section
variable {H : Type} {enc : TypeId × Value → H} {P : Program} {w : World} {base : Nat} {spare : Nat → Bool} {held : Bool}
end
def RowP (n : Int) (r : List Int) (k : Nat) : Prop := ∀ (j : Nat) (t : Int), j < k → r[j]? = some t → -1 ≤ t ∧ t ≤ n - 1
def Ztw (n : Int) (r : List Int) : Prop := r.length = 9 ∧ RowP n r r.length
def Zku (n : Int) (N : List (List Int)) (s : Nat) : Prop := ∀ (j : Nat) (r : List Int), j < s → N[j]? = some r → Ztw n r
def Zra (S : Int) (A : List Bool) (N : List (List Int)) : Prop := (0 ≤ S ∧ S ≤ (A.length : Int) - 1) ∧ N.length = A.length ∧ Zku A.length N N.length
def Yz (S : Int) (A : List Bool) (N : List (List Int)) : Prop := A.length ≤ 12 ∧ Zra S A N
theorem Zlh (n : Int) (r : List Int) : RowP n r 0 := fun _ _ h => absurd h (by omega)
theorem Zll {n : Int} {r : List Int} {k : Nat} {y : Int} (h : RowP n r k) (hy : r[k]? = some y) (h1 : -1 ≤ y ∧ y ≤ n - 1) : RowP n r (k + 1) := fun i x hi hx => by
 by_cases e : i = k
 ·subst e; rw [hy] at hx; cases hx; exact h1
 exact h i x (by omega) hx
theorem Znj {n : Int} {r : List Int} {k : Nat} (h : RowP n r k) (h1 : r.length ≤ k) : RowP n r r.length := fun i x hi => h i x (by omega)
theorem Zlc (n : Int) (N : List (List Int)) : Zku n N 0 := fun _ _ h => absurd h (by omega)
theorem Zlj {n : Int} {N : List (List Int)} {k : Nat} {y : List Int} (h : Zku n N k) (hy : N[k]? = some y) (h1 : Ztw n y) : Zku n N (k + 1) := fun i x hi hx => by
 by_cases e : i = k
 ·subst e; rw [hy] at hx; cases hx; exact h1
 exact h i x (by omega) hx
theorem Zbc {n : Int} {N : List (List Int)} {k : Nat} (h : Zku n N k) (h1 : N.length ≤ k) : Zku n N N.length := fun i x hi => h i x (by omega)
theorem Xy {S : Int} {A : List Bool} {N : List (List Int)} (e : Zra S A N) {k : Nat} {r : List Int} (h : N[k]? = some r) : Ztw A.length r :=
 e.2.2 k r (List.getElem?_eq_some_iff.1 h).1 h
theorem Zaq {S : Int} {A : List Bool} {N : List (List Int)} (e : Zra S A N) {k j : Nat} {r : List Int} {t : Int} (h : N[k]? = some r) (ht : r[j]? = some t) : -1 ≤ t ∧ t ≤ (A.length : Int) - 1 :=
 (Xy e h).2 j t (List.getElem?_eq_some_iff.1 ht).1 ht
end Go.KLib

namespace Go.KLib
def Yd (N : List (List Int)) (s x : Int) : Int := if s < 0 ∨ ¬ (0 ≤ x ∧ x ≤ 8) then -1 else (N.getD s.toNat []).getD x.toNat 0
def runA (N : List (List Int)) (S : Int) (w : List Int) : Nat → Int
 | 0 => S
 | k + 1 => Yd N (runA N S w k) (w.getD k 0)
theorem Zja {N : List (List Int)} {s x t : Int} {r : List Int} (h0 : 0 ≤ s) (hx : 0 ≤ x ∧ x ≤ 8) (hr : N[s.toNat]? = some r) (ht : r[x.toNat]? = some t) : t = Yd N s x := by
 unfold Yd
 rw [if_neg (by omega)]
 simp [List.getD_eq_getElem?_getD, hr, ht]
theorem Zcp {N : List (List Int)} {s x : Int} (h : s < 0 ∨ ¬ (0 ≤ x ∧ x ≤ 8)) : -1 = Yd N s x := by unfold Yd; rw [if_pos h]
theorem Zhc {N : List (List Int)} {S y : Int} {w : List Int} {k : Nat} (hy : w[k]? = some y) : runA N S w (k + 1) = Yd N (runA N S w k) y := by
 rw [runA, List.getD_eq_getElem?_getD, hy]; rfl
theorem Zex {S : Int} {A : List Bool} {N : List (List Int)} (e : Yz S A N) {s x : Int} (hs : -1 ≤ s ∧ s ≤ (A.length : Int) - 1) : -1 ≤ Yd N s x ∧ Yd N s x ≤ (A.length : Int) - 1 := by
 unfold Yd
 split
 ·have := e.2.1; omega
 rename_i h
 have hl := e.2.2.1
 have h1 : s.toNat < N.length := by omega
 have h2 := List.getElem?_eq_getElem h1
 have h3 := Xy e.2 h2
 have h4 : x.toNat < (N[s.toNat]).length := by rw [h3.1]; omega
 have h5 := List.getElem?_eq_getElem h4
 simp only [List.getD_eq_getElem?_getD, h2, Option.getD_some, h5]
 exact Zaq e.2 h2 h5
theorem Zpj {S : Int} {A : List Bool} {N : List (List Int)} (e : Yz S A N) {s : Int} {w : List Int} (hs : -1 ≤ s ∧ s ≤ (A.length : Int) - 1) : ∀ k, -1 ≤ runA N s w k ∧ runA N s w k ≤ (A.length : Int) - 1
 | 0 => hs
 | k + 1 => Zex e (Zpj e hs k)
theorem Zmy {N : List (List Int)} {S : Int} {w : List Int} {k : Nat} (h : runA N S w k = -1) : ∀ j, runA N S w (k + j) = -1
 | 0 => h
 | j + 1 => by
  rw [← Nat.add_assoc, runA, Zmy h j]
  exact (Zcp (.inl (by omega))).symm
theorem Zhe {N : List (List Int)} {S m : Int} {w : List Int} {k : Nat} (hm : m = runA N S w k) (h0 : m = -1) (hk : k ≤ w.length) : m = runA N S w w.length := by
 have := Zmy (h0 ▸ hm).symm (w.length - k)
 rw [show k + (w.length - k) = w.length by omega] at this
 rw [this, h0]
theorem Zmg {N : List (List Int)} {S y : Int} {w : List Int} {k : Nat} (hy : w[k]? = some y) (h : ¬ (0 ≤ y ∧ y ≤ 8)) : -1 = runA N S w w.length := by
 have hk := (List.getElem?_eq_some_iff.1 hy).1
 exact Zhe (k := k + 1) (by rw [Zhc hy]; exact Zcp (.inr h)) rfl (by omega)
noncomputable def rwR (S : Int) (A : List Bool) (N : List (List Int)) (w : List Int) : Int := bif tt (Yz S A N) then runA N S w w.length else -1
theorem Zla {S : Int} {A : List Bool} {N : List (List Int)} {w : List Int} (h : ¬ Yz S A N) : -1 = rwR S A N w := by
 unfold rwR; rw [← Zo h]; rfl
theorem Zfr {S : Int} {A : List Bool} {N : List (List Int)} {w : List Int} (h : Yz S A N) : runA N S w w.length = rwR S A N w := by
 unfold rwR; rw [← Zq h]; rfl
theorem Zpn (S : Int) (A : List Bool) (N : List (List Int)) (w : List Int) : -1 ≤ rwR S A N w ∧ rwR S A N w ≤ (A.length : Int) - 1 := by
 by_cases h : Yz S A N
 ·rw [← Zfr h]; exact Zpj h (by have := h.2.1; omega) _
 rw [← Zla h]; omega
def Qy (A : List Bool) (s : Int) : Bool := decide (0 ≤ s) && A.getD s.toNat false
theorem Zjc {A : List Bool} {s : Int} {y : Bool} (h : 0 ≤ s) (hy : A[s.toNat]? = some y) : y = Qy A s := by
 unfold Qy; rw [decide_eq_true h, List.getD_eq_getElem?_getD, hy]; rfl
theorem Zhm {A : List Bool} {s : Int} (h : ¬ 0 ≤ s) : false = Qy A s := by
 unfold Qy; rw [decide_eq_false h]; rfl
def cmpL : List Int → List Int → Int
 | [], [] => 0
 | [], _ :: _ => -1
 | _ :: _, [] => 1
 | x :: xs, y :: ys => if x < y then -1 else if y < x then 1 else cmpL xs ys
theorem Zer : ∀ {a b : List Int}, cmpL a b = 0 ↔ a = b
 | [], [] => by simp [cmpL]
 | [], _ :: _ => by simp [cmpL]
 | _ :: _, [] => by simp [cmpL]
 | x :: xs, y :: ys => by
  unfold cmpL
  rw [List.cons.injEq, ← Zer (a := xs) (b := ys)]
  split
  ·simp; omega
  split
  ·simp; omega
  constructor
  ·intro h; exact ⟨by omega, h⟩
  intro h; exact h.2
theorem Zfe : ∀ {a b : List Int} (k : Nat), a.take k = b.take k → cmpL a b = cmpL (a.drop k) (b.drop k)
 | _, _, 0, _ => rfl
 | [], [], _ + 1, _ => rfl
 | [], _ :: _, _ + 1, h => by simp at h
 | _ :: _, [], _ + 1, h => by simp at h
 | x :: xs, y :: ys, k + 1, h => by
  simp at h
  obtain ⟨rfl, h⟩ := h
  show (if x < x then -1 else if x < x then 1 else cmpL xs ys) = cmpL (xs.drop k) (ys.drop k)
  rw [if_neg (by omega), if_neg (by omega)]
  exact Zfe k h
theorem Zcq {α : Type} {a : List α} {k : Nat} {x : α} (h : a[k]? = some x) : a.drop k = x :: a.drop (k + 1) := by
 obtain ⟨hk, rfl⟩ := List.getElem?_eq_some_iff.1 h
 exact List.drop_eq_getElem_cons hk
theorem Zdn {a b : List Int} {k : Nat} {x y : Int} (h : a.take k = b.take k) (ha : a[k]? = some x) (hb : b[k]? = some y) (hl : x < y) : -1 = cmpL a b := by
 rw [Zfe k h, Zcq ha, Zcq hb, cmpL, if_pos hl]
theorem Zdm {a b : List Int} {k : Nat} {x y : Int} (h : a.take k = b.take k) (ha : a[k]? = some x) (hb : b[k]? = some y) (hl : y < x) : 1 = cmpL a b := by
 rw [Zfe k h, Zcq ha, Zcq hb, cmpL, if_neg (by omega), if_pos hl]
theorem Zcf {a b : List Int} {k : Nat} (h : a.take k = b.take k) (hk : k = a.length ∨ k = b.length) (hka : k ≤ a.length) (hkb : k ≤ b.length) : cmpL a b = if a.length < b.length then -1 else if b.length < a.length then 1 else 0 := by
 rw [Zfe k h]
 rcases Nat.lt_or_ge k a.length with h1 | h1
 ·have h2 : k = b.length := by omega
  rw [Zcq (List.getElem?_eq_getElem h1), List.drop_eq_nil_of_le (Nat.le_of_eq h2.symm), if_neg (by omega), if_pos (by omega)]; rfl
 rw [List.drop_eq_nil_of_le h1]
 rcases Nat.lt_or_ge k b.length with h3 | h3
 ·rw [Zcq (List.getElem?_eq_getElem h3), if_pos (by omega)]; rfl
 rw [List.drop_eq_nil_of_le h3, if_neg (by omega), if_neg (by omega)]; rfl
end Go.KLib

namespace Go.KLib
inductive Cl (B : Nat → Prop) (R : Nat → Nat → Prop) : Nat → Prop
 | base {s : Nat} (h : B s) : Cl B R s
 | step {s t : Nat} (h : R s t) (k : Cl B R t) : Cl B R s
def ClN (B : Nat → Prop) (R : Nat → Nat → Prop) : Nat → Nat → Prop
 | 0, s => B s
 | j + 1, s => ClN B R j s ∨ ∃ t, R s t ∧ ClN B R j t
noncomputable def clL (B : Nat → Prop) (R : Nat → Nat → Prop) (n : Nat) : List Bool := (List.range n).map fun s => tt (Cl B R s)
section
variable {B : Nat → Prop} {R : Nat → Nat → Prop} {n : Nat}
theorem Zpp : (clL B R n).length = n := by simp [clL]
theorem Zpv {s : Nat} (hs : s < n) : (clL B R n)[s]? = some (tt (Cl B R s)) := by simp [clL, hs]
theorem ClN.cl : ∀ {j s : Nat}, ClN B R j s → Cl B R s
 | 0, _, h => .base h
 | _ + 1, _, .inl h => h.cl
 | _ + 1, _, .inr ⟨_, h, k⟩ => .step h k.cl
theorem ClN.up {j s : Nat} (h : ClN B R j s) : ∀ i, ClN B R (j + i) s
 | 0 => h
 | i + 1 => .inl (h.up i)
theorem Cl.some_n {s : Nat} (h : Cl B R s) : ∃ j, ClN B R j s := by
 induction h with
 | base h => exact ⟨0, h⟩
 | step h _ ih => obtain ⟨j, k⟩ := ih; exact ⟨j + 1, .inr ⟨_, h, k⟩⟩
theorem stay {i : Nat} (hst : ∀ s, ClN B R (i + 1) s → ClN B R i s) : ∀ (m s : Nat), ClN B R (i + m) s → ClN B R i s
 | 0, _, h => h
 | m + 1, s, h => by
  rcases h with h | ⟨t, h, k⟩
  ·exact stay hst m s h
  exact hst s (.inr ⟨t, h, stay hst m t k⟩)
noncomputable def miss (B : Nat → Prop) (R : Nat → Nat → Prop) (n j : Nat) : Nat := ((List.range n).filter fun s => !tt (ClN B R j s)).length
theorem Zlp {α : Type} {p q : α → Bool} : ∀ (l : List α), (∀ x ∈ l, p x = true → q x = true) → (l.filter p).length ≤ (l.filter q).length
 | [], _ => Nat.le_refl _
 | x :: l, h => by
  have ih := Zlp l fun y hy => h y (List.mem_cons_of_mem _ hy)
  have h0 := h x (List.mem_cons_self ..)
  cases hp : p x <;> cases hq : q x <;> simp [hp, hq] <;> first | omega | (rw [hp] at h0; simp [hq] at h0)
theorem Zlo {α : Type} {p q : α → Bool} : ∀ (l : List α), (∀ x ∈ l, p x = true → q x = true) → (∃ x ∈ l, p x = false ∧ q x = true) → (l.filter p).length < (l.filter q).length
 | [], _, h => by obtain ⟨x, hx, _⟩ := h; simp at hx
 | x :: l, h, hex => by
  have ih := Zlp l fun y hy => h y (List.mem_cons_of_mem _ hy)
  have h0 := h x (List.mem_cons_self ..)
  obtain ⟨y, hy, hp', hq'⟩ := hex
  rcases List.mem_cons.1 hy with rfl | hy
  ·simp [hp', hq']; omega
  have ih2 := Zlo l (fun y hy => h y (List.mem_cons_of_mem _ hy)) ⟨y, hy, hp', hq'⟩
  cases hp : p x <;> cases hq : q x <;> simp [hp, hq] <;> first | omega | (rw [hp] at h0; simp [hq] at h0)
theorem Ztk (hB : ∀ s, B s → s < n) (hR : ∀ s t, R s t → s < n) : ∀ j, (∃ i, i ≤ j ∧ ∀ s, ClN B R (i + 1) s → ClN B R i s) ∨ miss B R n j + j ≤ n
  | 0 => .inr (by have := List.length_filter_le (fun s => !tt (ClN B R 0 s)) (List.range n); simp at this; simpa [miss] using this)
  | j + 1 => by
    rcases Ztk hB hR j with ⟨i, hi, h⟩ | h
    · exact .inl ⟨i, by omega, h⟩
    · by_cases hst : ∀ s, ClN B R (j + 1) s → ClN B R j s
      · exact .inl ⟨j, by omega, hst⟩
      · right
        have hst' : ∃ s, ClN B R (j + 1) s ∧ ¬ ClN B R j s := by
          apply Classical.byContradiction
          intro hc
          exact hst fun s hs => Classical.byContradiction fun hn => hc ⟨s, hs, hn⟩
        obtain ⟨s, h1, h2⟩ := hst'
        have hs : s < n := by
          rcases h1 with h1 | ⟨t, h1, _⟩
          · exact absurd h1 h2
          · exact hR s t h1
        have : miss B R n (j + 1) < miss B R n j := Zlo _ (fun x _ hx => by
            simp only [Bool.not_eq_true'] at hx ⊢
            rw [← Zo (fun e : ClN B R j x => by rw [← Zq (show ClN B R (j + 1) x from .inl e)] at hx; cases hx)])
          ⟨s, List.mem_range.2 hs, by rw [← Zq h1]; rfl, by rw [← Zo h2]; rfl⟩
        omega
theorem Zqr (hB : ∀ s, B s → s < n) (hR : ∀ s t, R s t → s < n) {s : Nat} (hs : s < n) (h : Cl B R s) : ClN B R n s := by
 obtain ⟨m, hm⟩ := h.some_n
 rcases Ztk hB hR n with ⟨i, hi, hst⟩ | h0
 ·have h1 : ClN B R i s := stay hst m s (by rw [Nat.add_comm]; exact hm.up i)
  have := h1.up (n - i)
  rwa [show i + (n - i) = n by omega] at this
 apply Classical.byContradiction
 intro hn
 have : 0 < miss B R n n := by
  unfold miss
  refine List.length_pos_of_mem (a := s) (List.mem_filter.2 ⟨List.mem_range.2 hs, by rw [← Zo hn]; rfl⟩)
 omega
def Zbh (B : Nat → Prop) (R : Nat → Nat → Prop) (l : List Bool) : Prop := ∀ s, l[s]? = some true → Cl B R s
def Zcl (B : Nat → Prop) (R : Nat → Nat → Prop) (l : List Bool) (j : Nat) : Prop := ∀ s, ClN B R j s → l[s]? = some true
theorem Zpz {l : List Bool} (hl : l.length = n) (h1 : Zbh B R l) (h2 : ∀ s, s < n → Cl B R s → l[s]? = some true) : l = clL B R n := by
 refine List.ext_getElem? fun s => ?_
 rcases Nat.lt_or_ge s n with hs | hs
 ·rw [Zpv hs]
  have hg : l[s]? = some (l[s]'(by omega)) := List.getElem?_eq_getElem _
  by_cases hc : Cl B R s
  ·rw [h2 s hs hc, ← Zq hc]
  rw [hg, ← Zo hc]
  cases hb : l[s]'(by omega) with
  | false => rfl
  | true => exact absurd (h1 s (by rw [hg, hb])) hc
 rw [List.getElem?_eq_none (by omega), List.getElem?_eq_none (by rw [Zpp]; omega)]
theorem Zls {l : List Bool} (hl : l.length = n) (hB : ∀ s, B s → s < n) (hR : ∀ s t, R s t → s < n) (h1 : Zbh B R l) (h2 : Zcl B R l n) : l = clL B R n :=
 Zpz hl h1 fun s hs h => h2 s (Zqr hB hR hs h)
theorem Zlq {l : List Bool} (hl : l.length = n) (h1 : Zbh B R l) (h2 : ∀ s, B s → l[s]? = some true) (h3 : ∀ s t, R s t → l[t]? = some true → l[s]? = some true) : l = clL B R n :=
 have key : ∀ s, Cl B R s → l[s]? = some true := fun s h => by
  induction h with
  | base h => exact h2 _ h
  | step h _ ih => exact h3 _ _ h ih
 Zpz hl h1 fun s _ h => key s h
end
def Zbm (A : List Bool) (s : Nat) : Prop := A[s]? = some true
def Zbq (N : List (List Int)) (s t : Nat) : Prop := ∃ (i : Nat) (r : List Int), N[s]? = some r ∧ r[i]? = some (t : Int)
theorem Zda {l : List Bool} {i s : Nat} (h : l[s]? = some true) : (l.set i true)[s]? = some true := by
 rw [List.getElem?_set]
 split
 ·rename_i e; subst e
  rw [if_pos (List.getElem?_eq_some_iff.1 h).1]
 exact h
theorem Zsd {l : List Bool} {i : Nat} (h : i < l.length) : (l.set i true)[i]? = some true := by rw [List.getElem?_set]; simp [h]
theorem Zbz {B : Nat → Prop} {R : Nat → Nat → Prop} {l : List Bool} {i : Nat} (h : Zbh B R l) (hc : Cl B R i) : Zbh B R (l.set i true) := fun s hs => by
 rw [List.getElem?_set] at hs
 split at hs
 ·rename_i e; subst e; exact hc
 exact h s hs
theorem Zhz {B : Nat → Prop} {R : Nat → Nat → Prop} {l : List Bool} {i j : Nat} (h : Zcl B R l j) : Zcl B R (l.set i true) j := fun s hs => Zda (h s hs)
def UpTo (A : List Bool) (N : List (List Int)) (j : Nat) (l : List Bool) (s : Nat) : Prop := ∀ q t, q < s → Zbq N q t → ClN (Zbm A) (Zbq N) j t → l[q]? = some true
def Znt (A : List Bool) (N : List (List Int)) (j : Nat) (l : List Bool) (s k : Nat) : Prop := ∀ (i t : Nat) (r : List Int), i < k → N[s]? = some r → r[i]? = some (t : Int) → ClN (Zbm A) (Zbq N) j t → l[s]? = some true
section
variable {A : List Bool} {N : List (List Int)} {j s k i : Nat} {l : List Bool} {r : List Int} {y : Int}
theorem Zqp : UpTo A N j l 0 := fun _ _ h => absurd h (by omega)
theorem Zod : Znt A N j l s 0 := fun _ _ _ h => absurd h (by omega)
theorem Zkc (h : UpTo A N j l s) : UpTo A N j (l.set i true) s := fun q t a b c => Zda (h q t a b c)
theorem Zia (hs : s < l.length) : Znt A N j (l.set s true) s k := fun _ _ _ _ _ _ _ => Zsd hs
theorem Zbx (h : Znt A N j l s k) (hr : N[s]? = some r) (hy : r[k]? = some y) (hn : ∀ t : Nat, y = t → ¬ l[t]? = some true) (ha : Zcl (Zbm A) (Zbq N) l j) : Znt A N j l s (k + 1) := fun i t r' hi hr' ht hc => by
 rw [hr] at hr'; cases hr'
 by_cases e : i = k
 ·subst e; rw [hy] at ht; injection ht with ht; exact absurd (ha t hc) (hn t ht)
 exact h i t r (by omega) hr ht hc
theorem Zry (h : UpTo A N j l s) (hk : Znt A N j l s k) (hr : ∀ r, N[s]? = some r → r.length ≤ k) : UpTo A N j l (s + 1) := fun q t hq he hc => by
 by_cases e : q = s
 ·subst e
  obtain ⟨i, r, h1, h2⟩ := he
  exact hk i t r (by have := hr r h1; have := (List.getElem?_eq_some_iff.1 h2).1; omega) h1 h2 hc
 exact h q t (by omega) he hc
theorem Zrr (ha : Zcl (Zbm A) (Zbq N) l j) (h : UpTo A N j l s) (hs : N.length ≤ s) : Zcl (Zbm A) (Zbq N) l (j + 1) := fun q hq => by
 rcases hq with hq | ⟨t, he, hc⟩
 ·exact ha q hq
 obtain ⟨i, r, h1, h2⟩ := he
 exact h q t (by have := (List.getElem?_eq_some_iff.1 h1).1; omega) ⟨i, r, h1, h2⟩ hc
noncomputable def Yn (A : List Bool) (N : List (List Int)) : List Bool := clL (Zbm A) (Zbq N) A.length
theorem Zis (hl : l.length = A.length) (hN : N.length = A.length) (h1 : Zbh (Zbm A) (Zbq N) l) (h2 : Zcl (Zbm A) (Zbq N) l j) (hj : A.length = j) : l = Yn A N :=
 Zls hl (fun s h => (List.getElem?_eq_some_iff.1 h).1) (fun s t h => by obtain ⟨i, r, h1, _⟩ := h; have := (List.getElem?_eq_some_iff.1 h1).1; omega) h1 (hj ▸ h2)
end
section
variable {P : Program} {w : World} {l : KL} {dst : Option Tmp} {ty : TypeId} {pos : String} {aft : Array Go.Edge} {gd : Option (Nat × Bool)} {x y : Operand} {xt yt : TypeId}
theorem Zkq {A : Option Addr} {n c m d' : Nat} (ht : (elB P xt).isSome = true) : (Op.equal xt (.slice A n c) (.slice none m d')).run P w = .ok A.isNone w := by
 obtain ⟨e, he⟩ := Option.isSome_iff_exists.1 ht
 have h : ∀ d, (Op.equalIn (d + 1) xt (.slice A n c) (.slice none m d')).run P w = .ok A.isNone w := fun d => by
  cases A <;> simp [Op.equalIn, run_underlying (Zbu he)]
 exact h 9999
theorem Zuj {A : Option Addr} {n c m d : Nat} (ht : (elB P xt).isSome = true) (hx : ev l x = some (.slice A n c)) (hy : ev l y = some (.slice none m d)) : Qu P l ⟨dst, .binOp .eql xt x y yt, ty, pos, aft, gd⟩ w (.bool A.isNone) w := fun ρ hρ => by
 have e : binOp .eql xt (.slice A n c) (.slice none m d) = (do pure (.bool (← Op.equal xt (.slice A n c) (.slice none m d)))) := rfl
 simp [execOp, hρ _ _ hx, hρ _ _ hy, eqGuard, e, Zkq ht]
end
theorem Ls.none {α : Type} {cs : α → List Value} {k L B n c : Nat} {w : World} {A : Option Addr} {xs : List α} (h : Ls cs k w L B (.slice A n c) xs) (hA : A.isNone = true) : xs = [] := by
 obtain ⟨_, A', c', e, _, _, h3⟩ := h
 injection e with e1 e2
 subst e1
 rcases Nat.eq_zero_or_pos xs.length with h0 | h0
 ·exact List.eq_nil_of_length_eq_zero h0
 obtain ⟨ad, ha, _⟩ := h3 h0
 rw [ha] at hA; cases hA
theorem Zdr : ∀ {l : List Bool} {s : Nat}, l[s]? = some false → (l.set s true).count false + 1 = l.count false
 | [], _, h => by simp at h
 | b :: l, 0, h => by simp at h; subst h; simp
 | b :: l, s + 1, h => by
  have := Zdr (l := l) (s := s) (by simpa using h)
  cases b <;> simp <;> omega
def PUp (N : List (List Int)) (l : List Bool) (s : Nat) : Prop := ∀ q t, q < s → Zbq N q t → l[t]? = some true → l[q]? = some true
def PRow (N : List (List Int)) (l : List Bool) (s k : Nat) : Prop := ∀ (i t : Nat) (r : List Int), i < k → N[s]? = some r → r[i]? = some (t : Int) → l[t]? = some true → l[s]? = some true
section
variable {A : List Bool} {N : List (List Int)} {s k : Nat} {l : List Bool} {r : List Int} {y : Int}
theorem Zsa : PUp N l 0 := fun _ _ h => absurd h (by omega)
theorem Zqt : PRow N l s 0 := fun _ _ _ h => absurd h (by omega)
theorem Zbl (h : PRow N l s k) (hr : N[s]? = some r) (hy : r[k]? = some y) (hn : ∀ t : Nat, y = t → l[t]? = some true → l[s]? = some true) : PRow N l s (k + 1) := fun i t r' hi hr' ht hc => by
 rw [hr] at hr'; cases hr'
 by_cases e : i = k
 ·subst e; rw [hy] at ht; injection ht with ht; exact hn t ht hc
 exact h i t r (by omega) hr ht hc
theorem Zty (h : PUp N l s) (hk : PRow N l s k) (hr : ∀ r, N[s]? = some r → r.length ≤ k) : PUp N l (s + 1) := fun q t hq he hc => by
 by_cases e : q = s
 ·subst e
  obtain ⟨i, r, h1, h2⟩ := he
  exact hk i t r (by have := hr r h1; have := (List.getElem?_eq_some_iff.1 h2).1; omega) h1 h2 hc
 exact h q t (by omega) he hc
theorem Ziu (hl : l.length = A.length) (h1 : Zbh (Zbm A) (Zbq N) l) (h2 : ∀ s, Zbm A s → l[s]? = some true) (h3 : PUp N l N.length) : l = Yn A N :=
 Zlq hl h1 h2 fun s t he hc => h3 s t (by obtain ⟨i, r, h1, _⟩ := he; exact (List.getElem?_eq_some_iff.1 h1).1) he hc
end
theorem Zdt (A : List Bool) (N : List (List Int)) : (Yn A N).length = A.length := Zpp
noncomputable def emR (S : Int) (A : List Bool) (N : List (List Int)) : Bool := bif tt (Yz S A N) then !(Yn A N).getD S.toNat false else false
theorem em_n {S : Int} {A : List Bool} {N : List (List Int)} (h : ¬ Yz S A N) : false = emR S A N := by unfold emR; rw [← Zo h]; rfl
theorem em_y {S : Int} {A : List Bool} {N : List (List Int)} {y : Bool} (h : Yz S A N) (hy : (Yn A N)[S.toNat]? = some y) : (!y) = emR S A N := by
 unfold emR; rw [← Zq h, List.getD_eq_getElem?_getD, hy]; rfl
end Go.KLib

namespace Go.KLib
inductive Tr where
 | l0 (t : Token)
 | l1 (t : Token) (a : Tr)
 | l2 (t : Token) (a b : Tr)
def Tr.tok : Tr → Token
 | .l0 t => t
 | .l1 t _ => t
 | .l2 t _ _ => t
def Tr.kids : Tr → List Tr
 | .l0 _ => []
 | .l1 _ a => [a]
 | .l2 _ a b => [a, b]
def Tr.flat : Tr → List Token
 | .l0 t => [t]
 | .l1 t a => a.flat ++ [t]
 | .l2 t a b => a.flat ++ b.flat ++ [t]
def Tr.sz : Tr → Nat
 | .l0 _ => 1
 | .l1 _ a => a.sz + 1
 | .l2 _ a b => a.sz + b.sz + 1
theorem Tr.flat_len : ∀ t : Tr, t.flat.length = t.sz
 | .l0 _ => rfl
 | .l1 _ a => by simp [Tr.flat, Tr.sz, flat_len a]
 | .l2 _ a b => by simp [Tr.flat, Tr.sz, flat_len a, flat_len b, Nat.add_assoc]
theorem Tr.sz_pos : ∀ t : Tr, 0 < t.sz
 | .l0 _ => Nat.one_pos
 | .l1 _ _ => Nat.succ_pos _
 | .l2 _ _ _ => Nat.succ_pos _
def arT (t : Token) : Int :=
 if t.kind = 1 ∨ t.kind = 2 then (if t.letter = 0 ∧ t.low = 0 ∧ t.high = 0 then 0 else -1)
 else if t.kind = 3 then (if (0 ≤ t.letter ∧ t.letter ≤ 8) ∧ t.low = 0 ∧ t.high = 0 then 0 else -1)
 else if t.kind = 4 ∨ t.kind = 5 then (if t.letter = 0 ∧ t.low = 0 ∧ t.high = 0 then 2 else -1)
 else if t.kind = 6 then (if t.letter = 0 ∧ t.low = 0 ∧ t.high = 0 then 1 else -1)
 else if t.kind = 7 then (if t.letter = 0 ∧ (1 ≤ t.high ∧ t.high ≤ 3) ∧ (0 ≤ t.low ∧ t.low ≤ t.high) then 1 else -1)
 else -1
theorem Zbd (t : Token) : arT t = -1 ∨ arT t = 0 ∨ arT t = 1 ∨ arT t = 2 := by
 unfold arT; repeat' split
 all_goals simp
def arK (k : Int) : Int := if k = 4 ∨ k = 5 then 2 else if k = 6 ∨ k = 7 then 1 else 0
theorem Zdl {t : Token} (h : 0 ≤ arT t) : arT t = arK t.kind := by
 unfold arT arK at *
 repeat' split at h
 all_goals first | omega | (repeat' split) <;> omega
def push (st : List Tr) (t : Token) : Option (List Tr) :=
 if arT t = 0 then some (.l0 t :: st)
 else if arT t = 1 then (match st with
  | a :: r => some (.l1 t a :: r)
  | [] => none)
 else if arT t = 2 then (match st with
  | b :: a :: r => some (.l2 t a b :: r)
  | _ => none)
 else none
def prs : List Tr → List Token → Option (List Tr)
 | st, [] => some st
 | st, t :: l => (push st t).bind fun st' => prs st' l
def Zbt (l : List Token) : Option Tr :=
 match prs [] l with
 | some [t] => some t
 | _ => none
def Okd : Tr → Prop
 | .l0 t => arT t = 0
 | .l1 t a => arT t = 1 ∧ Okd a
 | .l2 t a b => arT t = 2 ∧ Okd a ∧ Okd b
def Zkw (st : List Tr) : List Token := (st.reverse.map Tr.flat).flatten
theorem Zea (t : Tr) (st : List Tr) : Zkw (t :: st) = Zkw st ++ t.flat := by simp [Zkw]
theorem Zfx : ∀ (l m : List Token) (st : List Tr), prs st (l ++ m) = (prs st l).bind fun st' => prs st' m
 | [], m, st => rfl
 | t :: l, m, st => by
  simp only [List.cons_append, prs]
  cases push st t with
  | none => rfl
  | some st' => exact Zfx l m st'
theorem Zuc (st : List Tr) (t : Token) : prs st [t] = push st t := by
 simp only [prs]; cases push st t <;> rfl
theorem Znh {l : List Token} {st : List Tr} {k : Nat} {t : Token} (h : prs [] (l.take k) = some st) (ht : l[k]? = some t) : prs [] (l.take (k + 1)) = push st t := by
 rw [Zaw ht, Zfx, h]; exact Zuc st t
theorem Zro {l : List Token} {k : Nat} (h : prs [] (l.take k) = none) : prs [] l = none := by
 rw [← List.take_append_drop k l, Zfx, h]; rfl
theorem Zuq {l : List Token} {k : Nat} {st : List Tr} (h : prs [] (l.take k) = some st) (hk : l.length ≤ k) : prs [] l = some st := by
 rwa [List.take_of_length_le hk] at h
theorem Zfc : ∀ (t : Tr) (st : List Tr) (l : List Token), Okd t → prs st (t.flat ++ l) = prs (t :: st) l
 | .l0 t, st, l, h => by simp only [Okd] at h; simp [Tr.flat, prs, push, h]
 | .l1 t a, st, l, h => by
  obtain ⟨h1, h2⟩ := h
  rw [Tr.flat, List.append_assoc, Zfc a st _ h2]
  simp [prs, push, h1]
 | .l2 t a b, st, l, h => by
  obtain ⟨h1, h2, h3⟩ := h
  rw [Tr.flat, List.append_assoc, List.append_assoc, Zfc a st _ h2, Zfc b _ _ h3]
  simp [prs, push, h1]
theorem Zft {t : Tr} (h : Okd t) : Zbt t.flat = some t := by
 have := Zfc t [] [] h
 rw [List.append_nil] at this
 unfold Zbt; rw [this]; rfl
theorem Zub {st st' : List Tr} {t : Token} (hs : ∀ x ∈ st, Okd x) (h : push st t = some st') : (∀ x ∈ st', Okd x) ∧ Zkw st' = Zkw st ++ [t] := by
 unfold push at h
 split at h
 ·rename_i h0
  injection h with h; subst h
  refine ⟨fun x hx => ?_, by rw [Zea]; rfl⟩
  rcases List.mem_cons.1 hx with rfl | hx
  ·exact h0
  exact hs x hx
 split at h
 ·rename_i h1
  split at h
  ·rename_i a r
   injection h with h; subst h
   refine ⟨fun x hx => ?_, by rw [Zea, Zea, Tr.flat, List.append_assoc]⟩
   rcases List.mem_cons.1 hx with rfl | hx
   ·exact ⟨h1, hs a (by simp)⟩
   exact hs x (by simp [hx])
  cases h
 split at h
 ·rename_i h2
  split at h
  ·rename_i b a r
   injection h with h; subst h
   refine ⟨fun x hx => ?_, by simp [Zea, Tr.flat]⟩
   rcases List.mem_cons.1 hx with rfl | hx
   ·exact ⟨h2, hs a (by simp), hs b (by simp)⟩
   exact hs x (by simp [hx])
  cases h
 cases h
theorem Zsw : ∀ (l : List Token) (st st' : List Tr), (∀ x ∈ st, Okd x) → prs st l = some st' → (∀ x ∈ st', Okd x) ∧ Zkw st' = Zkw st ++ l
 | [], st, st', hs, h => by simp [prs] at h; subst h; simpa using hs
 | t :: l, st, st', hs, h => by
  simp only [prs] at h
  cases hp : push st t with
  | none => rw [hp] at h; cases h
  | some s1 =>
   rw [hp] at h
   obtain ⟨h1, h2⟩ := Zub hs hp
   obtain ⟨h3, h4⟩ := Zsw l s1 st' h1 h
   exact ⟨h3, by rw [h4, h2]; simp⟩
theorem Zmw {l : List Token} {t : Tr} (h : Zbt l = some t) : Okd t ∧ t.flat = l := by
 unfold Zbt at h
 split at h
 ·rename_i s hs
  injection h with h; subst h
  obtain ⟨h1, h2⟩ := Zsw l [] _ (by simp) hs
  exact ⟨h1 _ (by simp), by simpa [Zkw] using h2⟩
 cases h
theorem Okd.ar {t : Tr} (h : Okd t) : arT t.tok = t.kids.length := by
 cases t with
 | l0 t => exact h
 | l1 t a => exact h.1
 | l2 t a b => exact h.1
theorem Okd.kid {t k : Tr} {i : Nat} (h : Okd t) (hk : t.kids[i]? = some k) : Okd k := by
 cases t with
 | l0 t => simp [Tr.kids] at hk
 | l1 t a =>
  match i with
  | 0 => simp [Tr.kids] at hk; subst hk; exact h.2
  | i + 1 => simp [Tr.kids] at hk
 | l2 t a b =>
  match i with
  | 0 => simp [Tr.kids] at hk; subst hk; exact h.2.1
  | 1 => simp [Tr.kids] at hk; subst hk; exact h.2.2
  | i + 2 => simp [Tr.kids] at hk
def isE (l : List Token) : Bool := (Zbt l).isSome
theorem Zop {l : List Token} {k : Nat} {st : List Tr} {t : Token} (h : prs [] (l.take k) = some st) (ht : l[k]? = some t) (hp : push st t = none) : Zbt l = none := by
 have h1 := Zro (k := k + 1) ((Znh h ht).trans hp)
 unfold Zbt; rw [h1]
theorem Zqi {l : List Token} {k : Nat} {st : List Tr} (h : prs [] (l.take k) = some st) (hk : l.length ≤ k) : Zbt l = match (motive := List Tr → Option Tr) st with | [t] => some t | _ => none := by
 have h1 := Zuq h hk
 unfold Zbt; rw [h1]
 match st with
 | [] => rfl
 | [t] => rfl
 | a :: b :: r => rfl
theorem Zma {l : List Token} {k : Nat} {st : List Tr} (h : prs [] (l.take k) = some st) (hk : l.length ≤ k) : isE l = decide ((st.length : Int) = 1) := by
 unfold isE; rw [Zqi h hk]
 match st with
 | [] => rfl
 | [t] => rfl
 | a :: b :: r => simp; omega
theorem Zmk {st : List Tr} {t : Token} (h : arT t < 0 ∨ (st.length : Int) < arT t) : push st t = none := by
 unfold push
 rcases Zbd t with e | e | e | e <;> rw [e] at h ⊢
 ·rfl
 ·omega
 ·match st with
  | [] => rfl
  | a :: r => simp at h; omega
 match st with
 | [] => rfl
 | [a] => rfl
 | a :: b :: r => simp at h; omega
theorem Zsp {st : List Tr} {t : Token} (h0 : 0 ≤ arT t) (h : arT t ≤ (st.length : Int)) : ∃ st', push st t = some st' ∧ (st'.length : Int) = st.length - arT t + 1 := by
 unfold push
 rcases Zbd t with e | e | e | e <;> rw [e] at h h0 ⊢ <;> simp at h h0 ⊢
 ·match st with
  | [] => simp at h
  | a :: r => exact ⟨_, rfl, by simp⟩
 match st with
 | [] => simp at h
 | [a] => simp at h
 | a :: b :: r => exact ⟨_, rfl, by simp; omega⟩
end Go.KLib

namespace Go.KLib
def acs (a : Addr) : List Value := [.pointer (some a)]
def Cel (w : World) (p : Addr) (cs : List Value) : Prop := ∀ j u, cs[j]? = some u → w.cell? (p.add j) = some u
theorem Cel.ch {w w' : World} {p : Addr} {cs : List Value} {ws : List Nat} (h : Cel w p cs) (c : Ch ws w w') (hn : p.block ∉ ws) : Cel w' p cs :=
 fun j u hu => c.cell (h j u hu) (by rwa [Zcr])
def TrF (w : World) (F : Nat → Prop) : Addr → Tr → Prop
 | p, .l0 t => F p.block ∧ ∃ A C, Cel w p (t.cs ++ [.slice A 0 C]) ∧ C ≤ maxLen
 | p, .l1 t a => F p.block ∧ ∃ d C q, Cel w p (t.cs ++ [.slice (some d) 1 C]) ∧ 1 ≤ C ∧ C ≤ maxLen ∧ F d.block ∧ Cel w d [.pointer (some q)] ∧ TrF w F q a
 | p, .l2 t a b => F p.block ∧ ∃ d C q r, Cel w p (t.cs ++ [.slice (some d) 2 C]) ∧ 2 ≤ C ∧ C ≤ maxLen ∧ F d.block ∧ Cel w d [.pointer (some q), .pointer (some r)] ∧ TrF w F q a ∧ TrF w F r b
section
variable {w w' : World} {F G : Nat → Prop} {p : Addr} {t : Tr} {ws : List Nat} {L L' B B' : Nat}
theorem TrF.ch (c : Ch ws w w') (hw : ∀ i, F i → i ∉ ws) : ∀ {t : Tr} {p : Addr}, TrF w F p t → TrF w' F p t
 | .l0 _, _, ⟨h0, A, C, h1, h2⟩ => ⟨h0, A, C, h1.ch c (hw _ h0), h2⟩
 | .l1 _ _, _, ⟨h0, d, C, q, h1, h2, h3, h4, h5, h6⟩ => ⟨h0, d, C, q, h1.ch c (hw _ h0), h2, h3, h4, h5.ch c (hw _ h4), h6.ch c hw⟩
 | .l2 _ _ _, _, ⟨h0, d, C, q, r, h1, h2, h3, h4, h5, h6, h7⟩ => ⟨h0, d, C, q, r, h1.ch c (hw _ h0), h2, h3, h4, h5.ch c (hw _ h4), h6.ch c hw, h7.ch c hw⟩
theorem TrF.mono (hF : ∀ i, F i → G i) : ∀ {t : Tr} {p : Addr}, TrF w F p t → TrF w G p t
 | .l0 _, _, ⟨h0, A, C, h1, h2⟩ => ⟨hF _ h0, A, C, h1, h2⟩
 | .l1 _ _, _, ⟨h0, d, C, q, h1, h2, h3, h4, h5, h6⟩ => ⟨hF _ h0, d, C, q, h1, h2, h3, hF _ h4, h5, h6.mono hF⟩
 | .l2 _ _ _, _, ⟨h0, d, C, q, r, h1, h2, h3, h4, h5, h6, h7⟩ => ⟨hF _ h0, d, C, q, r, h1, h2, h3, hF _ h4, h5, h6.mono hF, h7.mono hF⟩
theorem Cel.lt {v : Value} {cs : List Value} (h : Cel w p (v :: cs)) : p.block < w.heap.size := by
 have := World.block_lt_of_cell? w _ (h 0 v rfl)
 rwa [Zcr] at this
theorem TrF.here : ∀ {t : Tr} {p : Addr}, TrF w F p t → TrF w (fun b => b < w.heap.size ∧ F b) p t
 | .l0 _, _, ⟨h0, A, C, h1, h2⟩ => ⟨⟨Cel.lt h1, h0⟩, A, C, h1, h2⟩
 | .l1 _ _, _, ⟨h0, d, C, q, h1, h2, h3, h4, h5, h6⟩ => ⟨⟨Cel.lt h1, h0⟩, d, C, q, h1, h2, h3, ⟨Cel.lt h5, h4⟩, h5, h6.here⟩
 | .l2 _ _ _, _, ⟨h0, d, C, q, r, h1, h2, h3, h4, h5, h6, h7⟩ => ⟨⟨Cel.lt h1, h0⟩, d, C, q, r, h1, h2, h3, ⟨Cel.lt h5, h4⟩, h5, h6.here, h7.here⟩
def TrAt (w : World) (L B : Nat) (p : Addr) (t : Tr) : Prop := TrF w (fun b => L ≤ b ∧ b < B) p t
theorem TrAt.ch (h : TrAt w L B p t) (c : Ch ws w w') (hw : ∀ i ∈ ws, i < L ∨ B ≤ i) : TrAt w' L B p t := TrF.ch c (fun i hi hm => by have := hw i hm; omega) h
theorem TrAt.ch0 (h : TrAt w L B p t) (c : Ch [] w w') : TrAt w' L B p t := h.ch c (by simp)
theorem TrAt.up (h : TrAt w L B p t) (hL : L' ≤ L) (hB : B ≤ B') : TrAt w L' B' p t := TrF.mono (fun i hi => ⟨Nat.le_trans hL hi.1, Nat.lt_of_lt_of_le hi.2 hB⟩) h
theorem TrAt.here (h : TrAt w L B p t) : TrAt w L w.heap.size p t := TrF.mono (fun _ h => ⟨h.2.1, h.1⟩) (TrF.here h)
def Kd (w : World) (L B : Nat) (ps : List Addr) (ts : List Tr) : Prop := ps.length = ts.length ∧ ∀ (i : Nat) (q : Addr) (t : Tr), ps[i]? = some q → ts[i]? = some t → TrAt w L B q t
variable {ps : List Addr} {ts : List Tr}
theorem Kd.ch (h : Kd w L B ps ts) (c : Ch ws w w') (hw : ∀ i ∈ ws, i < L ∨ B ≤ i) : Kd w' L B ps ts := ⟨h.1, fun i q t a b => (h.2 i q t a b).ch c hw⟩
theorem Kd.ch0 (h : Kd w L B ps ts) (c : Ch [] w w') : Kd w' L B ps ts := h.ch c (by simp)
theorem Kd.up (h : Kd w L B ps ts) (hL : L' ≤ L) (hB : B ≤ B') : Kd w L' B' ps ts := ⟨h.1, fun i q t a b => (h.2 i q t a b).up hL hB⟩
theorem Kd.get (h : Kd w L B ps ts) {i : Nat} {y : Addr} (hy : ps[i]? = some y) : ∃ k, ts[i]? = some k ∧ TrAt w L B y k := by
 have hi := (List.getElem?_eq_some_iff.1 hy).1
 have hx : ts[i]? = some (ts[i]'(by have := h.1; omega)) := List.getElem?_eq_getElem _
 exact ⟨_, hx, h.2 i y _ hy hx⟩
theorem Kd.nil : Kd w L B [] [] := ⟨rfl, fun _ _ _ h => by simp at h⟩
theorem Kd.cons {q : Addr} (h : TrAt w L B q t) (r : Kd w L B ps ts) : Kd w L B (q :: ps) (t :: ts) := by
 refine ⟨by simp [r.1], fun i u y a b => ?_⟩
 cases i with
 | zero => simp at a b; subst a b; exact h
 | succ i => exact r.2 i u y (by simpa using a) (by simpa using b)
theorem Cel.at {cs : List Value} (h : Cel w p cs) (hb : L ≤ p.block ∧ p.block < B) : At w L B p cs := ⟨hb, h⟩
theorem TrAt.open (h : TrAt w L B p t) : ∃ (A : Option Addr) (C : Nat) (ps : List Addr), At w L B p [.int .i64 t.tok.kind, .int .i64 t.tok.letter, .int .i64 t.tok.low, .int .i64 t.tok.high, .slice A ps.length C] ∧ Ls acs 1 w L B (.slice A ps.length C) ps ∧ Kd w L B ps t.kids := by
 cases t with
 | l0 k =>
  obtain ⟨h0, A, C, h1, h2⟩ := h
  exact ⟨A, C, [], ⟨h0, h1⟩, ⟨rfl, A, C, rfl, Nat.zero_le _, h2, fun h => absurd h (by simp)⟩, Kd.nil⟩
 | l1 k a =>
  obtain ⟨h0, d, C, q, h1, h2, h3, h4, h5, h6⟩ := h
  exact ⟨some d, C, [q], ⟨h0, h1⟩, ⟨rfl, some d, C, rfl, h2, h3, fun _ => ⟨d, rfl, h4, h5⟩⟩, Kd.cons h6 Kd.nil⟩
 | l2 k a b =>
  obtain ⟨h0, d, C, q, r, h1, h2, h3, h4, h5, h6, h7⟩ := h
  exact ⟨some d, C, [q, r], ⟨h0, h1⟩, ⟨rfl, some d, C, rfl, h2, h3, fun _ => ⟨d, rfl, h4, h5⟩⟩, Kd.cons h6 (Kd.cons h7 Kd.nil)⟩
def mkTr (t : Token) : List Tr → Tr
 | [] => .l0 t
 | [a] => .l1 t a
 | a :: b :: _ => .l2 t a b
def KdF (w : World) (F : Nat → Prop) (ps : List Addr) (ts : List Tr) : Prop := ps.length = ts.length ∧ ∀ (i : Nat) (q : Addr) (t : Tr), ps[i]? = some q → ts[i]? = some t → TrF w F q t
theorem TrF.mk {k : Token} {v : Value} (hp : F p.block) (hc : Cel w p (k.cs ++ [v])) (hs : Ls acs 1 w L B v ps) (hF : ∀ A n c, v = .slice (some A) n c → 0 < n → F A.block) (hk : KdF w F ps ts) (h2 : ps.length ≤ 2) : TrF w F p (mkTr k ts) := by
 obtain ⟨hl, A, C, rfl, hn, hm, hA⟩ := hs
 obtain ⟨he, hk⟩ := hk
 match ps, ts, he with
 | [], [], _ => exact ⟨hp, A, C, hc, hm⟩
 | [q], [a], _ =>
  obtain ⟨d, rfl, hd⟩ := hA (by simp)
  exact ⟨hp, d, C, q, hc, hn, hm, hF _ _ _ rfl (by simp), hd.2, hk 0 q a rfl rfl⟩
 | [q, r], [a, b], _ =>
  obtain ⟨d, rfl, hd⟩ := hA (by simp)
  exact ⟨hp, d, C, q, r, hc, hn, hm, hF _ _ _ rfl (by simp), hd.2, hk 0 q a rfl rfl, hk 1 r b rfl rfl⟩
 | _ :: _ :: _ :: _, _, _ => simp at h2
end
end Go.KLib

namespace Go.KLib
section
variable {P : Program} {w : World} {l : KL} {dst : Option Tmp} {ty : TypeId} {pos : String} {aft : Array Go.Edge} {gd : Option (Nat × Bool)} {K : Value → World → Prop}
theorem Zuw {t e : TypeId} (h : elB P t = some e) : P.underlying t = some (.slice (P.elem t)) ∧ P.elem t = e := by
 have h1 := Zbu h
 have h2 : P.elem t = e := by simp [Program.elem, h1]
 exact ⟨by rw [h2]; exact h1, h2⟩
def cutV (v : Value) (k lo hi : Nat) : Value :=
 match v with
 | .slice A n c => sliced A lo hi c k
 | v => v
theorem Zou (v : Value) (k lo hi : Nat) : bl (cutV v k lo hi) = bl v := by
 cases v <;> try rfl
 rename_i A n c
 cases A with
 | none => simp [cutV, sliced, bl, Value.ownBlock]
 | some a =>
  simp only [cutV, sliced, Option.map_some]
  split
  ·rfl
  simp [bl, Value.ownBlock, Zcr]
theorem Zuh {t e : TypeId} {k n c lo hi : Nat} {A : Option Addr} (ht : elB P t = some e) (hk : Yg P e = some k) (L H : Option Value)
   (hL : (∃ q, L = some (.int q (lo : Int))) ∨ (L = none ∧ lo = 0)) (hH : (∃ q, H = some (.int q (hi : Int))) ∨ (H = none ∧ hi = n)) (h1 : lo ≤ hi) (h2 : hi ≤ c) (hn : n ≤ c) :
   (Instr.sliceAt t (.slice A n c) L H none).run P w = .ok (cutV (.slice A n c) k lo hi) w := by
 obtain ⟨hu, he⟩ := Zuw ht
 have hs : (sizeOf (P.elem t)).run P w = .ok k w := by rw [he]; exact Zar hk
 rw [run_sliceAt_slice (P := P) (w := w) t _ _ _ _ hu]
 rcases hL with ⟨q, rfl⟩ | ⟨rfl, rfl⟩ <;> rcases hH with ⟨q', rfl⟩ | ⟨rfl, rfl⟩
 ·rw [run_slice_lh (P := P) (w := w) t A n c hu q q' lo hi (by omega) (by omega) (by omega), hs]; rfl
 ·rw [run_slice_l (P := P) (w := w) t A hi c hu q lo (by omega) (by omega), hs]; rfl
 ·rw [run_slice_h (P := P) (w := w) t A n c hu q' hi (by omega) (by omega), hs]; rfl
 rw [run_slice_all (P := P) (w := w) t A hi c hu, hs]; rfl
variable {α : Type} {cs : α → List Value} {e k L B : Nat} {v : Value} {xs : List α}
theorem Zqq (hc : ∀ x, (cs x).length = k) (xs : List α) (i : Nat) : (xs.drop i).flatMap cs = (xs.flatMap cs).drop (i * k) := by
 induction xs generalizing i with
 | nil => simp
 | cons x xs ih =>
  cases i with
  | zero => simp
  | succ i =>
   rw [List.drop_succ_cons, ih, List.flatMap_cons, show (i + 1) * k = (cs x).length + i * k by rw [hc x, Nat.succ_mul, Nat.add_comm], List.drop_length_add_append]
theorem Zqk (hc : ∀ x, (cs x).length = k) (xs : List α) (i : Nat) : (xs.take i).flatMap cs = (xs.flatMap cs).take (i * k) := by
 induction xs generalizing i with
 | nil => simp
 | cons x xs ih =>
  cases i with
  | zero => simp
  | succ i =>
   rw [List.take_succ_cons, List.flatMap_cons, ih, List.flatMap_cons, show (i + 1) * k = (cs x).length + i * k by rw [hc x, Nat.succ_mul, Nat.add_comm], List.take_length_add_append]
theorem Zne (hc : ∀ x, (cs x).length = k) (xs : List α) (lo n : Nat) : ((xs.drop lo).take n).flatMap cs = ((xs.flatMap cs).drop (lo * k)).take (n * k) := by
 rw [Zqk hc, Zqq hc]
theorem Ls.cut (h : Ls cs k w L B v xs) (hc : ∀ x, (cs x).length = k) {lo hi : Nat} (h1 : lo ≤ hi) (h2 : hi ≤ xs.length) : Ls cs k w L B (cutV v k lo hi) ((xs.drop lo).take (hi - lo)) := by
 obtain ⟨hl, A, c, rfl, hn, hm, hA⟩ := h
 have hlen : ((xs.drop lo).take (hi - lo)).length = hi - lo := by rw [List.length_take, List.length_drop]; omega
 refine ⟨by rw [flat_len hc], _, _, by rw [hlen]; rfl, by omega, by omega, fun h0 => ?_⟩
 rw [hlen] at h0
 obtain ⟨ad, rfl, ha⟩ := hA (by omega)
 rw [if_neg (by omega)]
 refine ⟨ad.add (lo * k), rfl, ?_⟩
 have h3 := ha.sub (lo * k) ((hi - lo) * k)
 rw [← Zne hc] at h3
 exact h3
theorem Ol.cut (h : Ol cs e k w v xs) (hc : ∀ x, (cs x).length = k) {lo hi : Nat} (h1 : lo ≤ hi) (h2 : hi ≤ xs.length) : Ol cs e k w (cutV v k lo hi) ((xs.drop lo).take (hi - lo)) := by
 have hlen : ((xs.drop lo).take (hi - lo)).length = hi - lo := by rw [List.length_take, List.length_drop]; omega
 refine ⟨by rw [flat_len hc], ?_⟩
 rcases h.2 with ⟨rfl, h0⟩ | ⟨g, off, cap, cur, rfl, hg, hn, hm, hf, ht⟩
 ·refine .inl ⟨?_, by omega⟩
  obtain rfl : hi = 0 := by omega
  obtain rfl : lo = 0 := by omega
  rfl
 refine .inr ⟨g, if cap = lo then off else off + lo * k, cap - lo, cur, ?_, hg, by omega, by omega, ?_, ?_⟩
 ·rw [hlen]
  simp only [cutV, sliced]
  split
  ·rfl
  simp [add_lit]
 ·split
  ·rename_i hcl
   subst hcl
   have : off ≤ cur.size := by
    have := Nat.le_trans (Nat.le_add_right off (cap * k)) hf
    exact this
   simp; omega
  have h5 : lo * k + (cap - lo) * k = cap * k := by rw [← Nat.add_mul]; congr 1; omega
  omega
 rw [Zne hc, ← ht, hlen]
 split
 ·have : hi - lo = 0 := by omega
  rw [this]; simp
 rw [← List.drop_drop, List.drop_take, List.take_take]
 congr 1
 have h6 : (hi - lo) * k + lo * k ≤ xs.length * k := by rw [← Nat.add_mul]; exact Nat.mul_le_mul_right _ (by omega)
 omega
def bndB (l : KL) (o : Option Operand) (dflt n : Nat) : Prop :=
 match o with
 | some x => ∃ q i, ev l x = some (.int q i) ∧ i = (n : Int)
 | none => n = dflt
theorem Ztr {w' : World} {x : Operand} {t : TypeId} {Lo Hi : Option Operand} {lo hi : Nat} (hs : Ls cs k w L B v xs) (ht : elB P t = some e) (hk : Yg P e = some k) (hx : ev l x = some v)
   (hL : bndB l Lo 0 lo) (hH : bndB l Hi xs.length hi) (h1 : lo ≤ hi) (h2 : hi ≤ xs.length) : Qu P l ⟨dst, .slice t x Lo Hi none, ty, pos, aft, gd⟩ w' (cutV v k lo hi) w' := fun ρ hρ => by
 obtain ⟨hl, A, c, rfl, hn, hm, hA⟩ := hs
 have e1 := Zuh (P := P) (w := w') (A := A) (n := xs.length) (c := c) ht hk (Lo.map ρ) (Hi.map ρ)
  (by cases Lo with
   | none => exact .inr ⟨rfl, hL⟩
   | some y => obtain ⟨q, i, hq, rfl⟩ := hL; exact .inl ⟨q, by simp [hρ _ _ hq]⟩)
  (by cases Hi with
   | none => exact .inr ⟨rfl, hH⟩
   | some y => obtain ⟨q, i, hq, rfl⟩ := hH; exact .inl ⟨q, by simp [hρ _ _ hq]⟩) h1 (Nat.le_trans h2 hn) hn
 unfold execOp
 simp only [Option.map_none, hρ _ _ hx, Sem.run_bind, e1, Result.andThen_ok, Sem.run_pure]
theorem Zgs {x : Operand} {t : TypeId} {Lo Hi : Option Operand} {ys : List α} (lo hi : Nat) (hs : Ls cs k w L B v xs) (hc : ∀ x, (cs x).length = k) (ht : elB P t = some e) (hk : Yg P e = some k) (hx : ev l x = some v)
   (hL : bndB l Lo 0 lo) (hH : bndB l Hi xs.length hi) (h1 : lo ≤ hi) (h2 : hi ≤ xs.length) (hy : (xs.drop lo).take (hi - lo) = ys)
   (kk : ∀ v', Ls cs k w L B v' ys → bl v' = bl v → ys.length = hi - lo → K v' w) : Step P l ⟨dst, .slice t x Lo Hi none, ty, pos, aft, gd⟩ w K :=
 Step.of (Ztr hs ht hk hx hL hH h1 h2) (kk _ (hy ▸ hs.cut hc h1 h2) (Zou _ _ _ _) (by rw [← hy, List.length_take, List.length_drop]; omega))
theorem Zov {e' : TypeId} {x : Operand} {t : TypeId} {Lo Hi : Option Operand} {ys : List α} (lo hi : Nat) (hs : Ol cs e' k w v xs) (hc : ∀ x, (cs x).length = k) (ht : elB P t = some e) (hk : Yg P e = some k) (hx : ev l x = some v)
   (hL : bndB l Lo 0 lo) (hH : bndB l Hi xs.length hi) (h1 : lo ≤ hi) (h2 : hi ≤ xs.length) (hy : (xs.drop lo).take (hi - lo) = ys)
   (kk : ∀ v', Ol cs e' k w v' ys → bl v' = bl v → ys.length = hi - lo → K v' w) : Step P l ⟨dst, .slice t x Lo Hi none, ty, pos, aft, gd⟩ w K :=
 Step.of (Ztr hs.ls ht hk hx hL hH h1 h2) (kk _ (hy ▸ hs.cut hc h1 h2) (Zou _ _ _ _) (by rw [← hy, List.length_take, List.length_drop]; omega))
theorem Zhk {S : World → Prop} {G : Value → Prop} {x : Operand} {t : TypeId} {Lo Hi : Option Operand} {ys : List α} (lo hi : Nat) (hs : Ls cs k w L B v xs) (hc : ∀ x, (cs x).length = k) (ht : elB P t = some e) (hk : Yg P e = some k) (hx : ev l x = some v)
   (hL : bndB l Lo 0 lo) (hH : bndB l Hi xs.length hi) (h1 : lo ≤ hi) (h2 : hi ≤ xs.length) (hy : (xs.drop lo).take (hi - lo) = ys)
   (kk : ∀ v', Ls cs k w L B v' ys → bl v' = bl v → ys.length = hi - lo → G v') : Tk P S l ⟨dst, .slice t x Lo Hi none, ty, pos, aft, gd⟩ G :=
 Tk.of (fun _ _ => Ztr hs ht hk hx hL hH h1 h2) (kk _ (hy ▸ hs.cut hc h1 h2) (Zou _ _ _ _) (by rw [← hy, List.length_take, List.length_drop]; omega))
theorem Zox (xs : List α) (lo : Nat) : (xs.drop lo).take (xs.length - lo) = xs.drop lo := List.take_of_length_le (by rw [List.length_drop]; exact Nat.le_refl _)
end
section
variable {P : Program} {w : World} {l : KL} {dst : Option Tmp} {ty : TypeId} {pos : String} {aft : Array Go.Edge} {gd : Option (Nat × Bool)} {x y : Operand} {xt yt : TypeId} {p : Option Addr}
end
section
variable {P : Program} {N : Nat} {Q : Po} {l : KL} {w : World} {ops : Array Oper} {rest : List Oper}
theorem Zsi {b c : Bool} (h : (!b) = c) : b = !c := by cases b <;> cases c <;> simp_all
theorem Zcy {c : Operand} {x y : Code} {b : Bool} (hc : ev l c = some (.bool b)) (hb : b = true) (ht : W P N x Q l w) : W P N (.cond c x y) Q l w := by subst hb; exact Xl hc ht
theorem Zsh {c : Operand} {x y : Code} {b : Bool} (hc : ev l c = some (.bool b)) (hb : b = false) (hf : W P N y Q l w) : W P N (.cond c x y) Q l w := by subst hb; exact Xn hc hf
theorem Zlm {d : Nat} {b : Bool} (hd : look l d = some (.bool b)) (hb : b = true) (h : WL P N ops Q rest ((d, .bool true) :: l) w) : WL P N ops Q rest l w := by subst hb; exact Zmr (Sub.cons hd (Sub.refl l)) h
theorem Zqo {d : Nat} {b : Bool} (hd : look l d = some (.bool b)) (hb : b = false) (h : WL P N ops Q rest ((d, .bool false) :: l) w) : WL P N ops Q rest l w := by subst hb; exact Zmr (Sub.cons hd (Sub.refl l)) h
theorem Zai {S : World → Prop} {fuel : Nat} {listed : Array Bool} {d : Nat} {b : Bool} (hd : look l d = some (.bool b)) (hb : b = true) (h : DR P N ops Q S fuel listed ((d, .bool true) :: l) w) : DR P N ops Q S fuel listed l w := by subst hb; exact Zmq (Sub.cons hd (Sub.refl l)) h
theorem Zaj {S : World → Prop} {fuel : Nat} {listed : Array Bool} {d : Nat} {b : Bool} (hd : look l d = some (.bool b)) (hb : b = false) (h : DR P N ops Q S fuel listed ((d, .bool false) :: l) w) : DR P N ops Q S fuel listed l w := by subst hb; exact Zmq (Sub.cons hd (Sub.refl l)) h
end
def Sep (v : Value) (vs : List Sv) : Prop := ∀ u ∈ vs, ∀ g ∈ bl u.v, g ∉ bl v
end Go.KLib

namespace Go.KLib
def Tks (w : World) (L : Nat) (v : Value) (ps : List Addr) (st : List Tr) : Prop := KdF w (fun b => L ≤ b ∧ b < w.heap.size ∧ b ∉ bl v) ps st.reverse
theorem Tks.nil (w : World) (L : Nat) (v : Value) : Tks w L v [] [] := ⟨rfl, fun _ _ _ h => by simp at h⟩
theorem KdF.ch {w w' : World} {F : Nat → Prop} {ps : List Addr} {ts : List Tr} {ws : List Nat} (h : KdF w F ps ts) (c : Ch ws w w') (hw : ∀ i, F i → i ∉ ws) : KdF w' F ps ts :=
 ⟨h.1, fun i q t a b => (h.2 i q t a b).ch c hw⟩
theorem KdF.mono {w : World} {F G : Nat → Prop} {ps : List Addr} {ts : List Tr} (h : KdF w F ps ts) (hF : ∀ i, F i → G i) : KdF w G ps ts :=
 ⟨h.1, fun i q t a b => (h.2 i q t a b).mono hF⟩
theorem KdF.drop {w : World} {F : Nat → Prop} {ps : List Addr} {ts : List Tr} (h : KdF w F ps ts) (k : Nat) : KdF w F (ps.drop k) (ts.drop k) :=
 ⟨by simp [h.1], fun i q t a b => h.2 (k + i) q t (by simpa using a) (by simpa using b)⟩
theorem KdF.take {w : World} {F : Nat → Prop} {ps : List Addr} {ts : List Tr} (h : KdF w F ps ts) (k : Nat) : KdF w F (ps.take k) (ts.take k) := by
 refine ⟨by simp [h.1], fun i q t a b => ?_⟩
 rw [List.getElem?_take] at a b
 split at a
 ·rename_i hi; rw [if_pos hi] at b; exact h.2 i q t a b
 cases a
theorem KdF.snoc {w : World} {F : Nat → Prop} {ps : List Addr} {ts : List Tr} {p : Addr} {t : Tr} (h : KdF w F ps ts) (ht : TrF w F p t) : KdF w F (ps ++ [p]) (ts ++ [t]) := by
 refine ⟨by simp [h.1], fun i q u a b => ?_⟩
 rcases Zad a with ⟨a1, a2⟩ | ⟨a1, a2⟩
 ·rcases Zad b with ⟨b1, b2⟩ | ⟨b1, b2⟩
  ·exact h.2 i q u a2 b2
  have := h.1; omega
 rcases Zad b with ⟨b1, b2⟩ | ⟨b1, b2⟩
 ·have := h.1; omega
 subst a2 b2; exact ht
theorem Zud {st : List Tr} {tok : Token} (h0 : 0 ≤ arT tok) {n : Nat} (hn : (n : Int) = arT tok) (hl : n ≤ st.length) : push st tok = some (mkTr tok (st.take n).reverse :: st.drop n) ∧ n ≤ 2 := by
 unfold push
 rcases Zbd tok with e | e | e | e <;> rw [e] at h0 hn ⊢
 ·omega
 ·obtain rfl : n = 0 := by omega
  exact ⟨rfl, by omega⟩
 ·obtain rfl : n = 1 := by omega
  match st, hl with
  | a :: r, _ => exact ⟨rfl, by omega⟩
 obtain rfl : n = 2 := by omega
 match st, hl with
 | a :: b :: r, _ => exact ⟨rfl, by omega⟩
theorem Tks.push {w0 w1 w2 : World} {v v1 v2 u : Value} {ps : List Addr} {st : List Tr} {tok : Token} {b k e ty L : Nat} (h : Tks w0 L v ps st) (hL : L ≤ w0.heap.size) (hv : ∀ g ∈ bl v, g < w0.heap.size) (c1 : Ch [] w0 w1)
   (hb : Blk w1 b ty [.int .i64 tok.kind, .int .i64 tok.letter, .int .i64 tok.low, .int .i64 tok.high, u]) (hb0 : w0.heap.size ≤ b) (hu : Ol acs e 1 w1 u (ps.drop k)) (hul : ∀ g ∈ bl u, w0.heap.size ≤ g)
   (b1 : bl v1 = bl v) (c2 : Ch (bl v1) w1 w2) (b2 : bl v2 = bl v1 ∨ bl v2 = [w1.heap.size]) (hok : 0 ≤ arT tok) (hk : (k : Int) = ps.length - arK tok.kind) :
   ∃ st', Go.KLib.push st tok = some st' ∧ Tks w2 L v2 (ps.take k ++ [⟨b, 0, none⟩]) st' ∧ st'.length = k + 1 := by
 have hl : ps.length = st.length := by have := h.1; simpa using this
 rw [← Zdl hok] at hk
 have hn : ((st.length - k : Nat) : Int) = arT tok := by have := Zbd tok; omega
 obtain ⟨h1, h2⟩ := Zud (st := st) hok hn (Nat.sub_le _ _)
 refine ⟨_, h1, ?_, by simp only [List.length_cons, List.length_drop]; have := Zbd tok; omega⟩
 have hF1 : KdF w1 (fun b => L ≤ b ∧ b < w1.heap.size ∧ b ∉ bl v) ps st.reverse := (KdF.ch h c1 (by simp)).mono fun i hi => ⟨hi.1, Nat.lt_of_lt_of_le hi.2.1 c1.size, hi.2.2⟩
 have er : (st.take (st.length - k)).reverse = st.reverse.drop k := by
  rw [List.reverse_take]; congr 1; have := Zbd tok; omega
 have er2 : (st.drop (st.length - k)).reverse = st.reverse.take k := by
  rw [List.reverse_drop]; congr 1; have := Zbd tok; omega
 have ht : TrF w1 (fun b => L ≤ b ∧ b < w1.heap.size ∧ b ∉ bl v) ⟨b, 0, none⟩ (mkTr tok (st.take (st.length - k)).reverse) := by
  rw [er]
  refine TrF.mk (v := u) (ps := ps.drop k) ⟨Nat.le_trans hL hb0, hb.lt, fun hm => by have := hv b hm; omega⟩ (fun j x hx => ?_) hu.ls (fun A n c hA _ => ?_) (hF1.drop k) (by rw [List.length_drop]; omega)
  ·rw [add_lit, hb.cell]; simpa [Token.cs] using hx
  subst hA
  have hg : A.block ∈ bl (.slice (some A) n c) := by simp [bl, Value.ownBlock]
  exact ⟨by have := hul _ hg; omega, hu.lt _ hg, fun hm => by have := hv _ hm; have := hul _ hg; omega⟩
 have hS := (hF1.take k).snoc ht
 have hS2 : KdF w2 (fun b => L ≤ b ∧ b < w1.heap.size ∧ b ∉ bl v) (ps.take k ++ [⟨b, 0, none⟩]) (st.reverse.take k ++ [mkTr tok (st.take (st.length - k)).reverse]) := hS.ch c2 fun i hi hm => hi.2.2 (b1 ▸ hm)
 show KdF w2 _ _ (mkTr tok _ :: _).reverse
 rw [List.reverse_cons, er2]
 refine hS2.mono fun i hi => ⟨hi.1, Nat.lt_of_lt_of_le hi.2.1 c2.size, fun hm => ?_⟩
 rcases b2 with e | e
 ·rw [e, b1] at hm; exact hi.2.2 hm
 rw [e] at hm; have := List.mem_singleton.1 hm; omega
theorem Tks.one {w : World} {v : Value} {ps : List Addr} {st : List Tr} {q : Addr} {L : Nat} (h : Tks w L v ps st) (hl : (ps.length : Int) = 1) (hq : ps[0]? = some q) : ∃ t, st = [t] ∧ TrAt w L w.heap.size q t := by
 have h1 : st.length = 1 := by have := h.1; simp at this; omega
 match st, h1 with
 | [t], _ => exact ⟨t, rfl, (h.2 0 q t hq rfl).mono fun _ h => ⟨h.1, h.2.1⟩⟩
theorem Tks.len {w : World} {v : Value} {ps : List Addr} {st : List Tr} {L : Nat} (h : Tks w L v ps st) : ps.length = st.length := by have := h.1; simpa using this
theorem Zrq {l : List Token} {t : Tr} (h : Zbt l = some t) : true = isE l := by unfold isE; rw [h]; rfl
theorem Zka {l : List Token} (h : Zbt l = none) : false = isE l := by unfold isE; rw [h]; rfl
def ivE (e : List Token) : Bool := decide (e.length ≤ 24) && isE e
end Go.KLib

namespace Go.KLib
theorem Okd.len {t : Tr} (h : Okd t) : ((t.tok.kind = 4 ∨ t.tok.kind = 5) → t.kids.length = 2) ∧ ((t.tok.kind = 6 ∨ t.tok.kind = 7) → t.kids.length = 1) ∧ (¬ (t.tok.kind = 4 ∨ t.tok.kind = 5 ∨ t.tok.kind = 6 ∨ t.tok.kind = 7) → t.kids.length = 0) := by
 have h1 := h.ar
 have h2 := Zdl (t := t.tok) (by rw [h1]; omega)
 rw [h1] at h2
 unfold arK at h2
 split at h2
 ·omega
 split at h2 <;> omega
theorem Okd.two {t : Tr} (h : Okd t) (hk : t.tok.kind = 4 ∨ t.tok.kind = 5) : ∃ k a b, t = .l2 k a b := by
 have := h.len.1 hk
 cases t with
 | l0 k => simp [Tr.kids] at this
 | l1 k a => simp [Tr.kids] at this
 | l2 k a b => exact ⟨k, a, b, rfl⟩
theorem Okd.one {t : Tr} (h : Okd t) (hk : t.tok.kind = 6 ∨ t.tok.kind = 7) : ∃ k a, t = .l1 k a := by
 have := h.len.2.1 hk
 cases t with
 | l0 k => simp [Tr.kids] at this
 | l1 k a => exact ⟨k, a, rfl⟩
 | l2 k a b => simp [Tr.kids] at this
theorem Okd.zero {t : Tr} (h : Okd t) (hk : ¬ (t.tok.kind = 4 ∨ t.tok.kind = 5 ∨ t.tok.kind = 6 ∨ t.tok.kind = 7)) : ∃ k, t = .l0 k := by
 have := h.len.2.2 hk
 cases t with
 | l0 k => exact ⟨k, rfl⟩
 | l1 k a => simp [Tr.kids] at this
 | l2 k a b => simp [Tr.kids] at this
theorem Okd.shape2 {t a b : Tr} (h : Okd t) (hk : t.tok.kind = 4 ∨ t.tok.kind = 5) (h0 : t.kids[0]? = some a) (h1 : t.kids[1]? = some b) : t = .l2 t.tok a b := by
 obtain ⟨k, x, y, rfl⟩ := h.two hk
 simp [Tr.kids] at h0 h1; subst h0 h1; rfl
theorem Okd.shape1 {t a : Tr} (h : Okd t) (hk : t.tok.kind = 6 ∨ t.tok.kind = 7) (h0 : t.kids[0]? = some a) : t = .l1 t.tok a := by
 obtain ⟨k, x, rfl⟩ := h.one hk
 simp [Tr.kids] at h0; subst h0; rfl
theorem Okd.shape0 {t : Tr} (h : Okd t) (hk : ¬ (t.tok.kind = 4 ∨ t.tok.kind = 5 ∨ t.tok.kind = 6 ∨ t.tok.kind = 7)) : t = .l0 t.tok := by
 obtain ⟨k, rfl⟩ := h.zero hk; rfl
theorem Tr.flat_kids (t : Tr) : t.flat = (t.kids.map Tr.flat).flatten ++ [t.tok] := by
 cases t <;> simp [Tr.flat, Tr.kids, Tr.tok]
theorem Tr.flat_pos (t : Tr) : 0 < t.flat.length := by rw [Tr.flat_len]; exact t.sz_pos
theorem Zkh {t : Tr} {l : List Token} {n : Nat} {y : Token} (hl : l = t.flat) (hn : n + 1 = l.length) (hy : l[n]? = some y) : y = t.tok := by
 rw [hl, Tr.flat_kids] at hy
 rw [hl, Tr.flat_kids, List.length_append, List.length_singleton] at hn
 rw [List.getElem?_append_right (by omega)] at hy
 have : n - (t.kids.map Tr.flat).flatten.length = 0 := by omega
 rw [this] at hy
 simpa using hy.symm
def Zdj (ts : List Tr) : List Token := (ts.map Tr.flat).flatten
theorem Zoc (ts : List Tr) (t : Tr) : Zdj (ts ++ [t]) = Zdj ts ++ t.flat := by simp [Zdj]
theorem Zqv (ts us : List Tr) : Zdj (ts ++ us) = Zdj ts ++ Zdj us := by simp [Zdj]
theorem Zlg : ∀ ts : List Tr, ts.length ≤ (Zdj ts).length
 | [] => Nat.le_refl _
 | t :: ts => by
  have h1 := Zlg ts
  have h2 := t.flat_pos
  have h3 : (Zdj (t :: ts)).length = t.flat.length + (Zdj ts).length := by simp [Zdj]
  rw [h3, List.length_cons]; omega
theorem Zib {l p : List Token} {ts : List Tr} {k : Int} (hp : l.take k.toNat = p ++ Zdj ts) (h0 : 0 ≤ k) : (ts.length : Int) ≤ k := by
 have h1 := congrArg List.length hp
 rw [List.length_take, List.length_append] at h1
 have := Zlg ts
 omega
theorem Zog {l p : List Token} {ts : List Tr} {k : Int} {y : Token} (hp : l.take k.toNat = p ++ Zdj ts) (ho : ∀ x ∈ ts, Okd x) (hn : 0 < ts.length) (h0 : 0 ≤ k) (hk : k ≤ l.length) (hy : l[(k - 1).toNat]? = some y) :
   ∃ ts', l.take (k - 1).toNat = p ++ Zdj ts' ∧ (ts'.length : Int) = ts.length - 1 + arT y ∧ (∀ x ∈ ts', Okd x) := by
 have hk1 := Zib hp h0
 obtain ⟨n, hn'⟩ : ∃ n : Nat, k = n + 1 := ⟨(k - 1).toNat, by omega⟩
 subst hn'
 have e1 : ((n : Int) + 1 - 1).toNat = n := by omega
 have e2 : ((n : Int) + 1).toNat = n + 1 := by omega
 rw [e1] at hy ⊢
 rw [e2, Zaw hy] at hp
 have hne : ts ≠ [] := by intro e; rw [e] at hn; simp at hn
 obtain ⟨us, t, rfl⟩ : ∃ us t, ts = us ++ [t] := ⟨ts.dropLast, ts.getLast hne, (List.dropLast_concat_getLast hne).symm⟩
 rw [Zoc, Tr.flat_kids, ← List.append_assoc, ← List.append_assoc] at hp
 obtain ⟨h1, h2⟩ := List.append_inj' hp rfl
 have hy2 : y = t.tok := by simpa using h2
 have hot := ho t (by simp)
 refine ⟨us ++ t.kids, ?_, ?_, fun x hx => ?_⟩
 ·rw [h1, Zqv, List.append_assoc]; rfl
 ·rw [hy2, hot.ar]; simp
 rcases List.mem_append.1 hx with hx | hx
 ·exact ho x (by simp [hx])
 obtain ⟨i, hi, rfl⟩ := List.getElem_of_mem hx
 exact hot.kid (List.getElem?_eq_getElem hi)
theorem Zqg {l p : List Token} {ts : List Tr} {k n : Int} (hp : l.take k.toNat = p ++ Zdj ts) (hn : n = ts.length) (h : ¬ 0 < n) (h0 : 0 ≤ k) (hk : k ≤ l.length) : k = (p.length : Int) := by
 obtain rfl : ts = [] := List.eq_nil_of_length_eq_zero (by omega)
 have h1 := congrArg List.length hp
 simp [Zdj] at h1
 omega
theorem Znv {l a b : List Token} {k : Token} {n : Nat} (hl : l = a ++ b ++ [k]) (hn : n = a.length) : l.take n = a := by subst hl hn; simp
theorem Ziz {l a b : List Token} {k : Token} {n : Nat} (hl : l = a ++ b ++ [k]) (hn : n + 1 = l.length) : l.take n = a ++ b := by
 subst hl
 have : n = (a ++ b).length := by simp at hn ⊢; omega
 rw [this]; exact List.take_left
theorem Znu {l a b : List Token} {k : Token} {n m : Nat} (hl : l = a ++ b ++ [k]) (hn : n = a.length) (hm : m = b.length) : (l.drop n).take m = b := by
 subst hl hn hm; rw [List.append_assoc]; simp
theorem Zok {l a : List Token} {k : Token} {n : Nat} (hl : l = a ++ [k]) (hn : n + 1 = l.length) : l.take n = a := by
 subst hl
 have : n = a.length := by simp at hn ⊢; omega
 rw [this]; exact List.take_left
theorem Zwi {l a b : List Token} {k : Token} (hl : l = a ++ b ++ [k]) : l.length = a.length + b.length + 1 := by subst hl; simp; omega
theorem Zwc {l a : List Token} {k : Token} (hl : l = a ++ [k]) : l.length = a.length + 1 := by subst hl; simp
theorem Okd.k2 {t : Tr} {l : List Token} {y : Token} (h : Okd t) (h2 : t.kids.length = 2) (ht : y = t.tok) (hl : l = t.flat) : ∃ a b, t = .l2 y a b ∧ Okd a ∧ Okd b ∧ l = a.flat ++ b.flat ++ [y] ∧ l.length = a.flat.length + b.flat.length + 1 := by
 subst ht hl
 cases t <;> simp [Tr.kids] at h2
 rename_i k a b
 exact ⟨a, b, rfl, h.2.1, h.2.2, rfl, Zwi rfl⟩
theorem Okd.k1 {t : Tr} {l : List Token} {y : Token} (h : Okd t) (h2 : t.kids.length = 1) (ht : y = t.tok) (hl : l = t.flat) : ∃ a, t = .l1 y a ∧ Okd a ∧ l = a.flat ++ [y] ∧ l.length = a.flat.length + 1 := by
 subst ht hl
 cases t <;> simp [Tr.kids] at h2
 rename_i k a
 exact ⟨a, rfl, h.2, rfl, Zwc rfl⟩
section
variable {x a b : Tr}
end
theorem Zwg {e : List Token} (h : isE e = true) : ∃ t, Zbt e = some t ∧ Okd t ∧ e = t.flat := by
 unfold isE at h
 cases ht : Zbt e with
 | none => rw [ht] at h; cases h
 | some t => exact ⟨t, rfl, (Zmw ht).1, (Zmw ht).2.symm⟩
theorem Tr.k1 {t : Tr} (h : t.kids.length = 1) : ∃ k a, t = .l1 k a := by
 cases t <;> simp [Tr.kids] at h
 exact ⟨_, _, rfl⟩
theorem Tr.k2 {t : Tr} (h : t.kids.length = 2) : ∃ k a b, t = .l2 k a b := by
 cases t <;> simp [Tr.kids] at h
 exact ⟨_, _, _, rfl⟩
end Go.KLib

namespace Go.KLib
section
variable {P : Program} {w : World} {l : KL} {dst : Option Tmp} {ty : TypeId} {pos : String} {aft : Array Go.Edge} {gd : Option (Nat × Bool)} {x y : Operand} {ts : Array TypeId} {k k' : IntKind} {a b : Int}
theorem Zwh (hx : ev l x = some (.int k a)) (hy : ev l y = some (.int k' b)) : Qu P l ⟨dst, .call { callee := .builtin .max, args := #[x, y], argTypes := ts }, ty, pos, aft, gd⟩ w (.int k (if b > a then b else a)) w := fun ρ hρ => by
 simp [execOp, resolve, invoke, builtin, hρ _ _ hx, hρ _ _ hy, run_max_int2]
theorem Zrd (hx : ev l x = some (.int k a)) (hy : ev l y = some (.int k' b)) : Qu P l ⟨dst, .call { callee := .builtin .min, args := #[x, y], argTypes := ts }, ty, pos, aft, gd⟩ w (.int k (if b < a then b else a)) w := fun ρ hρ => by
 simp [execOp, resolve, invoke, builtin, hρ _ _ hx, hρ _ _ hy, run_min_int2]
end
def KdN (w : World) (L bo : Nat) (v : Value) (ps : List Addr) (ts : List Tr) : Prop := KdF w (fun b => L ≤ b ∧ b < w.heap.size ∧ b ≠ bo ∧ b ∉ bl v) ps ts
theorem KdN.nil (w : World) (L bo : Nat) (v : Value) : KdN w L bo v [] [] := ⟨rfl, fun _ _ _ h => by simp at h⟩
theorem KdN.grow {w0 w1 w2 : World} {L bo a b : Nat} {v v2 : Value} {ps : List Addr} {ts : List Tr} {q : Addr} {t : Tr} (h : KdN w0 L bo v ps ts) (hL : L ≤ w0.heap.size) (hv : ∀ g ∈ bl v, g < w0.heap.size) (hbo : bo < w0.heap.size) (c1 : Ch [] w0 w1)
   (hq : TrAt w1 a b q t) (ha : w0.heap.size ≤ a) (hb : b ≤ w1.heap.size) (c2 : Ch (bl v) w1 w2) (b2 : bl v2 = bl v ∨ bl v2 = [w1.heap.size]) : KdN w2 L bo v2 (ps ++ [q]) (ts ++ [t]) := by
 have h1 : KdF w1 (fun b => L ≤ b ∧ b < w1.heap.size ∧ b ≠ bo ∧ b ∉ bl v) ps ts := (KdF.ch h c1 (by simp)).mono fun i hi => ⟨hi.1, Nat.lt_of_lt_of_le hi.2.1 c1.size, hi.2.2⟩
 have h2 := h1.snoc (t := t) (p := q) (hq.mono fun i hi => ⟨by omega, by omega, by omega, fun hm => by have := hv i hm; omega⟩)
 have h3 := h2.ch c2 fun i hi hm => hi.2.2.2 hm
 refine h3.mono fun i hi => ⟨hi.1, Nat.lt_of_lt_of_le hi.2.1 c2.size, hi.2.2.1, fun hm => ?_⟩
 rcases b2 with e | e
 ·rw [e] at hm; exact hi.2.2.2 hm
 rw [e] at hm; have := List.mem_singleton.1 hm; omega
theorem KdN.bo {w0 w1 : World} {L bo : Nat} {v : Value} {ps : List Addr} {ts : List Tr} (h : KdN w0 L bo v ps ts) (c : Ch [bo] w0 w1) : KdN w1 L bo v ps ts :=
 (KdF.ch h c fun i hi hm => hi.2.2.1 (List.mem_singleton.1 hm)).mono fun i hi => ⟨hi.1, Nat.lt_of_lt_of_le hi.2.1 c.size, hi.2.2⟩
theorem KdN.row {w0 w1 : World} {L bo : Nat} {v : Value} {ps : List Addr} {ts : List Tr} (h : KdN w0 L bo v ps ts) (c : Ch (bl v) w0 w1) : KdN w1 L bo v ps ts :=
 (KdF.ch h c fun i hi hm => hi.2.2.2 hm).mono fun i hi => ⟨hi.1, Nat.lt_of_lt_of_le hi.2.1 c.size, hi.2.2⟩
theorem KdN.done {w : World} {L bo e ty B : Nat} {v : Value} {ps : List Addr} {ts : List Tr} {k : Token} (h : KdN w L bo v ps ts) (hm : Blk w bo ty [.int .i64 k.kind, .int .i64 k.letter, .int .i64 k.low, .int .i64 k.high, v]) (hL : L ≤ bo)
   (hv : Ol acs e 1 w v ps) (hl : ∀ g ∈ bl v, L ≤ g) (h2 : ps.length ≤ 2) (hB : w.heap.size ≤ B) : TrAt w L B ⟨bo, 0, none⟩ (mkTr k ts) := by
 refine TrF.mk (v := v) (ps := ps) ⟨hL, Nat.lt_of_lt_of_le hm.lt hB⟩ (fun j x hx => ?_) hv.ls (fun A n c hA _ => ?_) (KdF.mono h fun i hi => ⟨hi.1, Nat.lt_of_lt_of_le hi.2.1 hB⟩) h2
 ·rw [add_lit, hm.cell]; simpa [Token.cs] using hx
 subst hA
 have hg : A.block ∈ bl (.slice (some A) n c) := by simp [bl, Value.ownBlock]
 exact ⟨hl _ hg, Nat.lt_of_lt_of_le (hv.lt _ hg) hB⟩
end Go.KLib

namespace Go.KLib
section
variable {q : Int} {x a b : Tr}
theorem Okd.r7 (h : Okd x) (hk : x.tok.kind = 7) : (1 ≤ x.tok.high ∧ x.tok.high ≤ 3) ∧ 0 ≤ x.tok.low ∧ x.tok.low ≤ x.tok.high := by
 have h1 : arT x.tok = 1 := by rw [h.ar, h.len.2.1 (.inr hk)]; rfl
 unfold arT at h1
 rw [if_neg (by omega), if_neg (by omega), if_neg (by omega), if_neg (by omega), if_pos hk] at h1
 split at h1
 ·rename_i h2; exact h2.2
 cases h1
end
section
variable {e : List Token} {x : Int} {t : Tr}
end
end Go.KLib

namespace Go.KLib
def Qz : Tr → Int
 | .l0 _ => 1
 | .l1 t a => if t.kind = 7 then (if (Qz a + 3) * t.high + 1 < 100000 then (Qz a + 3) * t.high + 1 else 100000) else (if Qz a + 1 < 100000 then Qz a + 1 else 100000)
 | .l2 _ a b => if Qz a + Qz b + 1 < 100000 then Qz a + Qz b + 1 else 100000
def timT (x : Tr) : Int → Nat → Tr
 | _, 0 => .l0 ⟨2, 0, 0, 0⟩
 | low, h + 1 => if low > 0 then .l2 ⟨4, 0, 0, 0⟩ x (timT x (if low - 1 > 0 then low - 1 else 0) h) else .l2 ⟨5, 0, 0, 0⟩ (.l2 ⟨4, 0, 0, 0⟩ x (timT x (if low - 1 > 0 then low - 1 else 0) h)) (.l0 ⟨2, 0, 0, 0⟩)
def Qe : Tr → Tr
 | .l0 t => .l0 t
 | .l1 t a => if t.kind = 7 then timT (Qe a) t.low t.high.toNat else .l1 t (Qe a)
 | .l2 t a b => .l2 t (Qe a) (Qe b)
theorem Qq : ∀ {t : Tr}, Okd t → 1 ≤ Qz t ∧ Qz t ≤ 100000
 | .l0 _, _ => by simp [Qz]
 | .l1 t a, h => by
  have ih := Qq h.2
  unfold Qz
  split
  ·rename_i hk
   have r := h.r7 hk
   have r1 : 1 ≤ t.high ∧ t.high ≤ 3 := r.1
   have h1 := Int.mul_le_mul_of_nonneg_left (c := Qz a + 3) r1.1 (by omega)
   rw [Int.mul_one] at h1
   split <;> omega
  split <;> omega
 | .l2 t a b, h => by
  have ia := Qq h.2.1
  have ib := Qq h.2.2
  unfold Qz
  split <;> omega
theorem Zmc (x : Tr) : ∀ (low : Int) (h : Nat), (timT x low h).sz ≤ (x.sz + 3) * h + 1
 | _, 0 => by simp [timT, Tr.sz]
 | low, h + 1 => by
  have ih := Zmc x (if low - 1 > 0 then low - 1 else 0) h
  have e : (x.sz + 3) * (h + 1) = (x.sz + 3) * h + (x.sz + 3) := Nat.mul_succ _ _
  rw [e]
  unfold timT
  split <;> simp only [Tr.sz] <;> omega
theorem Zjl {x : Tr} {n : Int} (low : Int) (hx : x.sz ≤ 5000) (hh : n ≤ 3) : (timT x low n.toNat).sz ≤ 20000 := by
 have h1 := Zmc x low n.toNat
 have h2 : (x.sz + 3) * n.toNat ≤ (x.sz + 3) * 3 := Nat.mul_le_mul_left _ (by omega)
 omega
theorem Zcn : ∀ {t : Tr}, Okd t → Qz t ≤ 5000 → ((Qe t).sz : Int) ≤ Qz t
 | .l0 _, _, _ => by simp [Qz, Qe, Tr.sz]
 | .l1 t a, h, hb => by
  have ih := Qq h.2
  unfold Qz at hb ⊢
  unfold Qe
  split
  ·rename_i hk
   rw [if_pos hk] at hb
   have r : 1 ≤ t.high ∧ t.high ≤ 3 := (h.r7 hk).1
   have h1 := Int.mul_le_mul_of_nonneg_left (c := Qz a + 3) r.1 (by omega)
   rw [Int.mul_one] at h1
   have hc : (Qz a + 3) * t.high + 1 < 100000 := by
    apply Classical.byContradiction; intro hc; rw [if_neg hc] at hb; omega
   rw [if_pos hc] at hb ⊢
   have ie := Zcn h.2 (by omega)
   have ht := Zmc (Qe a) t.low t.high.toNat
   have h2 : ((((Qe a).sz + 3) * t.high.toNat : Nat) : Int) ≤ (Qz a + 3) * t.high := by
    rw [Int.natCast_mul, Int.toNat_of_nonneg (by omega)]
    exact Int.mul_le_mul_of_nonneg_right (by omega) (by omega)
   omega
  rename_i hk
  rw [if_neg hk] at hb
  have hc : Qz a + 1 < 100000 := by
   apply Classical.byContradiction; intro hc; rw [if_neg hc] at hb; omega
  rw [if_pos hc] at hb ⊢
  have ie := Zcn h.2 (by omega)
  simp only [Tr.sz]; omega
 | .l2 t a b, h, hb => by
  have ia := Qq h.2.1
  have ib := Qq h.2.2
  unfold Qz at hb ⊢
  have hc : Qz a + Qz b + 1 < 100000 := by
   apply Classical.byContradiction; intro hc; rw [if_neg hc] at hb; omega
  rw [if_pos hc] at hb ⊢
  have ea := Zcn h.2.1 (by omega)
  have eb := Zcn h.2.2 (by omega)
  simp only [Qe, Tr.sz]; omega
theorem Zfp {t k : Tr} {i : Nat} (h : Okd t) (hb : Qz t ≤ 5000) (hk : t.kids[i]? = some k) : Qz k ≤ 5000 := by
 cases t with
 | l0 q => simp [Tr.kids] at hk
 | l1 q a =>
  have ih := Qq h.2
  match i with
  | 0 =>
   simp [Tr.kids] at hk; subst hk
   unfold Qz at hb
   split at hb
   ·rename_i h7
    have r : 1 ≤ q.high ∧ q.high ≤ 3 := (h.r7 h7).1
    have h1 := Int.mul_le_mul_of_nonneg_left (c := Qz a + 3) r.1 (by omega)
    rw [Int.mul_one] at h1
    split at hb <;> omega
   split at hb <;> omega
  | i + 1 => simp [Tr.kids] at hk
 | l2 q a b =>
  have ia := Qq h.2.1
  have ib := Qq h.2.2
  unfold Qz at hb
  match i with
  | 0 => simp [Tr.kids] at hk; subst hk; split at hb <;> omega
  | 1 => simp [Tr.kids] at hk; subst hk; split at hb <;> omega
  | i + 2 => simp [Tr.kids] at hk
section
variable {x a b : Tr} {low high : Int}
theorem tim0 (h : high = 0) : .l0 ⟨2, 0, 0, 0⟩ = timT x low high.toNat := by subst h; rfl
theorem timp (h : ¬ high = 0) (h0 : 0 ≤ high) (hl : low > 0) : .l2 ⟨4, 0, 0, 0⟩ x (timT x (if low - 1 > 0 then low - 1 else 0) (high - 1).toNat) = timT x low high.toNat := by
 rw [show high.toNat = (high - 1).toNat + 1 by omega, timT, if_pos hl]
theorem timn (h : ¬ high = 0) (h0 : 0 ≤ high) (hl : ¬ low > 0) : .l2 ⟨5, 0, 0, 0⟩ (.l2 ⟨4, 0, 0, 0⟩ x (timT x (if low - 1 > 0 then low - 1 else 0) (high - 1).toNat)) (.l0 ⟨2, 0, 0, 0⟩) = timT x low high.toNat := by
 rw [show high.toNat = (high - 1).toNat + 1 by omega, timT, if_neg hl]
theorem exp2 (h : Okd x) (hk : x.tok.kind = 4 ∨ x.tok.kind = 5) (h0 : x.kids[0]? = some a) (h1 : x.kids[1]? = some b) : .l2 x.tok (Qe a) (Qe b) = Qe x := by rw [h.shape2 hk h0 h1]; rfl
theorem exp6 (h : Okd x) (hk : x.tok.kind = 6) (h0 : x.kids[0]? = some a) : .l1 x.tok (Qe a) = Qe x := by
 rw [h.shape1 (by omega) h0]
 have h6 : ¬ x.tok.kind = 7 := by omega
 simp only [Qe, if_neg h6]; rfl
theorem exp7 (h : Okd x) (hk : x.tok.kind = 7) (h0 : x.kids[0]? = some a) : timT (Qe a) x.tok.low x.tok.high.toNat = Qe x := by
 rw [h.shape1 (by omega) h0]
 show timT (Qe a) x.tok.low x.tok.high.toNat = _
 simp only [Qe, if_pos hk]
theorem exp0 (h : Okd x) (hk : ¬ (x.tok.kind = 4 ∨ x.tok.kind = 5 ∨ x.tok.kind = 6 ∨ x.tok.kind = 7)) : .l0 x.tok = Qe x := by rw [h.shape0 hk]; rfl
theorem bnd2 (h : Okd x) (hk : x.tok.kind = 4 ∨ x.tok.kind = 5) (h0 : x.kids[0]? = some a) (h1 : x.kids[1]? = some b) : (if Qz a + Qz b + 1 < 100000 then Qz a + Qz b + 1 else 100000) = Qz x := by rw [h.shape2 hk h0 h1]; rfl
theorem bnd6 (h : Okd x) (hk : x.tok.kind = 6) (h0 : x.kids[0]? = some a) : (if Qz a + 1 < 100000 then Qz a + 1 else 100000) = Qz x := by
 rw [h.shape1 (by omega) h0]
 have h6 : ¬ x.tok.kind = 7 := by omega
 simp only [Qz, if_neg h6]
theorem bnd7 (h : Okd x) (hk : x.tok.kind = 7) (h0 : x.kids[0]? = some a) : (if (Qz a + 3) * x.tok.high + 1 < 100000 then (Qz a + 3) * x.tok.high + 1 else 100000) = Qz x := by
 rw [h.shape1 (by omega) h0]
 show (if (Qz a + 3) * x.tok.high + 1 < 100000 then (Qz a + 3) * x.tok.high + 1 else 100000) = _
 simp only [Qz, if_pos hk]
theorem bnd0 (h : Okd x) (hk : ¬ (x.tok.kind = 4 ∨ x.tok.kind = 5 ∨ x.tok.kind = 6 ∨ x.tok.kind = 7)) : 1 = Qz x := by rw [h.shape0 hk]; rfl
end
def expE (e : List Token) : List Token × Bool :=
 match Zbt e with
 | some t => if e.length ≤ 24 ∧ Qz t ≤ 5000 ∧ (Qe t).sz ≤ 400 then ((Qe t).flat, true) else ([], false)
 | none => ([], false)
section
variable {e : List Token} {t : Tr}
theorem Zeh (h : Zbt e = some t) (h1 : e.length ≤ 24) (h2 : Qz t ≤ 5000) (h3 : (Qe t).sz ≤ 400) : expE e = ((Qe t).flat, true) := by unfold expE; rw [h]; simp [h1, h2, h3]
theorem Zej (h : ivE e = false) : expE e = ([], false) := by
 unfold ivE at h; unfold expE
 cases ht : Zbt e with
 | none => rfl
 | some t =>
  simp only
  rw [if_neg]
  intro c
  rw [decide_eq_true c.1, ← Zrq ht] at h
  cases h
theorem Zcm (h : Zbt e = some t) (h2 : ¬ Qz t ≤ 5000) : expE e = ([], false) := by unfold expE; rw [h]; simp only; rw [if_neg (fun c => h2 c.2.1)]
theorem Zck (h : Zbt e = some t) (h2 : ¬ (Qe t).sz ≤ 400) : expE e = ([], false) := by unfold expE; rw [h]; simp only; rw [if_neg (fun c => h2 c.2.2)]
theorem Ztq (h : ivE e = true) : ∃ t, Zbt e = some t ∧ Okd t ∧ e = t.flat ∧ e.length ≤ 24 := by
 unfold ivE at h
 rw [Bool.and_eq_true] at h
 obtain ⟨t, a, b, c⟩ := Zwg h.2
 exact ⟨t, a, b, c, of_decide_eq_true h.1⟩
theorem Zmu (e : List Token) : (expE e).1.length ≤ 400 := by
 unfold expE
 cases Zbt e with
 | none => simp
 | some t =>
  simp only
  split
  ·rename_i h; rw [Tr.flat_len]; exact h.2.2
  simp
end
theorem TrAt.mk {w : World} {L B bo e ty : Nat} {k : Token} {v : Value} {ps : List Addr} {ts : List Tr} (hm : Blk w bo ty [.int .i64 k.kind, .int .i64 k.letter, .int .i64 k.low, .int .i64 k.high, v]) (hL : L ≤ bo)
   (hv : Ol acs e 1 w v ps) (hl : ∀ g ∈ bl v, L ≤ g) (hk : Kd w L B ps ts) (h2 : ps.length ≤ 2) (hB : B ≤ w.heap.size) : TrAt w L w.heap.size ⟨bo, 0, none⟩ (mkTr k ts) := by
 refine TrF.mk (v := v) (ps := ps) ⟨hL, hm.lt⟩ (fun j x hx => ?_) hv.ls (fun A n c hA _ => ?_) ⟨hk.1, fun i q t a b => ((hk.2 i q t a b).up (Nat.le_refl _) hB)⟩ h2
 ·rw [add_lit, hm.cell]; simpa [Token.cs] using hx
 subst hA
 have hg : A.block ∈ bl (.slice (some A) n c) := by simp [bl, Value.ownBlock]
 exact ⟨hl _ hg, hv.lt _ hg⟩
end Go.KLib

namespace Go.KLib
section
variable {α : Type} {cs : α → List Value} {e k lo hi : Nat} {w w' : World} {vs : List Sv} {xs : List (List α)}
theorem Od.set {i : Nat} {v : Sv} {x x' : List α} (h : Od cs e k w lo hi vs xs) (hv : vs[i]? = some v) (hx : xs[i]? = some x) (c : Ch (bl v.v) w w') (ho : Ol cs e k w' v.v x') : Od cs e k w' lo hi vs (xs.set i x') := by
 have hi' := (List.getElem?_eq_some_iff.1 hx).1
 refine ⟨by simp [h.1], fun j u y a b => ?_, h.2.2⟩
 rw [List.getElem?_set] at b
 by_cases e1 : i = j
 ·subst e1
  rw [if_pos rfl, if_pos hi'] at b
  injection b with b; subst b
  rw [hv] at a; injection a with a; subst a
  exact ⟨ho, (h.2.1 i v x hv hx).2⟩
 rw [if_neg e1] at b
 refine ⟨(h.2.1 j u y a b).1.ch c fun g hg hm => ?_, (h.2.1 j u y a b).2⟩
 rcases Nat.lt_or_gt_of_ne e1 with h1 | h1
 ·exact h.2.2 i j v u hv a h1 g hm hg
 exact h.2.2 j i u v a hv h1 g hg hm
theorem Od.sepO {o : Value} (h : Od cs e k w lo hi vs xs) (ho : ∀ g ∈ bl o, g < lo ∨ hi ≤ g) : Sep o vs := by
 intro u hu g hg hm
 obtain ⟨i, hi', rfl⟩ := List.getElem_of_mem hu
 have hx : xs[i]? = some (xs[i]'(by rw [← h.1]; exact hi')) := List.getElem?_eq_getElem _
 have h1 := (h.2.1 i _ _ (List.getElem?_eq_getElem hi') hx).2 g hg
 have h2 := ho g hm
 omega
theorem Od.ownget (h : Od cs e k w lo hi vs xs) {i : Nat} {y : Sv} (hy : vs[i]? = some y) : ∃ x, xs[i]? = some x ∧ Ol cs e k w y.v x ∧ (∀ g ∈ bl y.v, lo ≤ g ∧ g < hi) := by
 have hi := (List.getElem?_eq_some_iff.1 hy).1
 have hx : xs[i]? = some (xs[i]'(by have := h.1; omega)) := List.getElem?_eq_getElem _
 exact ⟨_, hx, h.2.1 i y _ hy hx⟩
theorem Yv {β : Type} {l : List β} {i : Nat} {y : β} (h : l[i]? = some y) : y ∈ l := by
 obtain ⟨hi, rfl⟩ := List.getElem?_eq_some_iff.1 h; exact List.getElem_mem hi
end
theorem Zto {P : Program} {w : World} {l : KL} {dst : Option Tmp} {ty : TypeId} {pos : String} {aft : Array Go.Edge} {gd : Option (Nat × Bool)} {x y : Operand} {xt yt : TypeId} {a b : Int} (hb : ¬ b = 0) (hx : ev l x = some (.int .i64 a)) (hy : ev l y = some (.int .i64 b)) :
   Qu P l ⟨dst, .binOp .rem xt x y yt, ty, pos, aft, gd⟩ w (.int .i64 (a.tmod b)) w := fun ρ hρ => by
 simp [execOp, hρ _ _ hx, hρ _ _ hy, eqGuard, binOp, Op.intDiv, hb]
section
variable {S : Int} {N : List (List Int)} {n j s k : Nat} {l : List Bool} {r : List Int} {y : Int}
def Gone (N : List (List Int)) (o : List Bool) (s : Nat) : Prop := ∀ t, Zbq N s t → o[t]? = some true
theorem Gone.set {o : List Bool} {i : Nat} (h : Gone N o s) : Gone N (o.set i true) s := fun t ht => Zda (h t ht)
end
end Go.KLib

namespace Go.KLib
section
variable {α : Type} {cs : α → List Value} {e k lo hi : Nat} {w w' : World} {vs : List Sv} {xs : List (List α)}
theorem Od.chS {o : Value} (h : Od cs e k w lo hi vs xs) (c : Ch (bl o) w w') (hs : Sep o vs) : Od cs e k w' lo hi vs xs :=
 ⟨h.1, fun i v x a b => ⟨(h.2.1 i v x a b).1.ch c (hs v (Yv a)), (h.2.1 i v x a b).2⟩, h.2.2⟩
end
end Go.KLib

namespace Go.KLib
end Go.KLib

namespace Go.KLib
section
variable (L : List Int) (f : Int) (F wd : List Int)
end
section
variable {L : List Int} {f : Int} {F wd : List Int} {i s k : Nat} {y c x : Int}
end
end Go.KLib

namespace Go.KLib
end Go.KLib

namespace Go.KLib
theorem Od.rng {α : Type} {cs : α → List Value} {e k : Nat} {w : World} {lo hi : Nat} {vs : List Sv} {xs : List (List α)} (h : Od cs e k w lo hi vs xs) {u : Sv} (hu : u ∈ vs) {g : Nat} (hg : g ∈ bl u.v) : lo ≤ g ∧ g < hi := by
 obtain ⟨i, hi, rfl⟩ := List.getElem_of_mem hu
 obtain ⟨x, _, _, h3⟩ := h.ownget (List.getElem?_eq_getElem hi)
 exact h3 g hg
def keyE (C : List Int) (t : Int) : Int := if t < 0 then -1 else C.getD t.toNat 0
def keyC (C : List Int) (r : List Int) (c : Int) : List Int := c :: r.map (keyE C)
def ixL (K : List (List Int)) (x : List Int) : Int := if x ∈ K then (K.idxOf x : Int) else -1
def rfn (C : List Int) (N : List (List Int)) : Nat → List (List Int) × List Int
 | 0 => ([], [])
 | s + 1 =>
  let p := rfn C N s
  let c := C.getD s 0
  if c < 0 then (p.1, p.2 ++ [-1])
  else if keyC C (N.getD s []) c ∈ p.1 then (p.1, p.2 ++ [(p.1.idxOf (keyC C (N.getD s []) c) : Int)])
  else (p.1 ++ [keyC C (N.getD s []) c], p.2 ++ [(p.1.length : Int)])
def mxC (C : List Int) : Nat → Nat
 | 0 => 0
 | s + 1 => if C.getD s 0 = (mxC C s : Int) then mxC C s + 1 else mxC C s
def CanC (C : List Int) (n : Nat) : Prop := ∀ s, s < n → C.getD s 0 = -1 ∨ (0 ≤ C.getD s 0 ∧ C.getD s 0 ≤ mxC C s)
section
variable {C : List Int} {N : List (List Int)}
theorem Ztt {s : Nat} (h : C.getD s 0 < 0) : rfn C N (s + 1) = ((rfn C N s).1, (rfn C N s).2 ++ [-1]) := by
 show (if _ then _ else _) = _
 rw [if_pos h]
theorem Zts {s : Nat} (h : ¬ C.getD s 0 < 0) (hk : keyC C (N.getD s []) (C.getD s 0) ∈ (rfn C N s).1) : rfn C N (s + 1) = ((rfn C N s).1, (rfn C N s).2 ++ [((rfn C N s).1.idxOf (keyC C (N.getD s []) (C.getD s 0)) : Int)]) := by
 show (if _ then _ else _) = _
 rw [if_neg h, if_pos hk]
theorem Zlz {s : Nat} (h : ¬ C.getD s 0 < 0) (hk : ¬ keyC C (N.getD s []) (C.getD s 0) ∈ (rfn C N s).1) : rfn C N (s + 1) = ((rfn C N s).1 ++ [keyC C (N.getD s []) (C.getD s 0)], (rfn C N s).2 ++ [((rfn C N s).1.length : Int)]) := by
 show (if _ then _ else _) = _
 rw [if_neg h, if_neg hk]
theorem Zcs (C : List Int) (N : List (List Int)) (s : Nat) :
   (C.getD s 0 < 0 ∧ rfn C N (s + 1) = ((rfn C N s).1, (rfn C N s).2 ++ [-1])) ∨
   (¬ C.getD s 0 < 0 ∧ keyC C (N.getD s []) (C.getD s 0) ∈ (rfn C N s).1 ∧ rfn C N (s + 1) = ((rfn C N s).1, (rfn C N s).2 ++ [((rfn C N s).1.idxOf (keyC C (N.getD s []) (C.getD s 0)) : Int)])) ∨
   (¬ C.getD s 0 < 0 ∧ ¬ keyC C (N.getD s []) (C.getD s 0) ∈ (rfn C N s).1 ∧ rfn C N (s + 1) = ((rfn C N s).1 ++ [keyC C (N.getD s []) (C.getD s 0)], (rfn C N s).2 ++ [((rfn C N s).1.length : Int)])) := by
 by_cases h : C.getD s 0 < 0
 ·exact .inl ⟨h, Ztt h⟩
 by_cases hk : keyC C (N.getD s []) (C.getD s 0) ∈ (rfn C N s).1
 ·exact .inr (.inl ⟨h, hk, Zts h hk⟩)
 exact .inr (.inr ⟨h, hk, Zlz h hk⟩)
theorem Zet (C : List Int) (N : List (List Int)) : ∀ s, (rfn C N s).2.length = s ∧ (rfn C N s).1.length ≤ s
 | 0 => ⟨rfl, Nat.le_refl _⟩
 | s + 1 => by
  obtain ⟨h1, h2⟩ := Zet C N s
  rcases Zcs C N s with ⟨_, e⟩ | ⟨_, _, e⟩ | ⟨_, _, e⟩ <;> rw [e] <;> simp <;> omega
theorem Zff (C : List Int) (x : Int) : ∀ {s}, s ≤ C.length → mxC (C ++ [x]) s = mxC C s
 | 0, _ => rfl
 | s + 1, h => by
  have e : (C ++ [x]).getD s 0 = C.getD s 0 := by
   rw [List.getD_eq_getElem?_getD, List.getD_eq_getElem?_getD, List.getElem?_append_left (by omega)]
  unfold mxC; rw [e, Zff C x (by omega : s ≤ C.length)]
theorem Zoy (C : List Int) (x : Int) : (C ++ [x]).getD C.length 0 = x := by simp [List.getD_eq_getElem?_getD]
theorem Zfw {C : List Int} {x : Int} (h : CanC C C.length) (hx : x = -1 ∨ (0 ≤ x ∧ x ≤ mxC C C.length)) : CanC (C ++ [x]) (C.length + 1) := fun s hs => by
 rcases Nat.lt_or_ge s C.length with h1 | h1
 ·have e : (C ++ [x]).getD s 0 = C.getD s 0 := by
   rw [List.getD_eq_getElem?_getD, List.getD_eq_getElem?_getD, List.getElem?_append_left (by omega)]
  rw [e, Zff C x (by omega)]; exact h s h1
 have e : s = C.length := by omega
 subst e; rw [Zoy, Zff C x (Nat.le_refl _)]; exact hx
theorem Zmj (C : List Int) (x : Int) : mxC (C ++ [x]) (C.length + 1) = if x = (mxC C C.length : Int) then mxC C C.length + 1 else mxC C C.length := by
 show (if _ then _ else _) = _
 rw [Zoy, Zff C x (Nat.le_refl _)]
theorem Zjo (C : List Int) (N : List (List Int)) : ∀ s, CanC (rfn C N s).2 s ∧ mxC (rfn C N s).2 s = (rfn C N s).1.length
 | 0 => ⟨fun _ h => absurd h (by omega), rfl⟩
 | s + 1 => by
  obtain ⟨h1, h2⟩ := Zjo C N s
  have hl := (Zet C N s).1
  have hc : CanC (rfn C N s).2 (rfn C N s).2.length := by rw [hl]; exact h1
  have hm : mxC (rfn C N s).2 (rfn C N s).2.length = (rfn C N s).1.length := by rw [hl]; exact h2
  rcases Zcs C N s with ⟨_, e⟩ | ⟨_, hk, e⟩ | ⟨_, _, e⟩ <;> rw [e]
  ·have a := Zfw (x := -1) hc (.inl rfl); have b := Zmj (rfn C N s).2 (-1)
   rw [hl] at a b; refine ⟨a, ?_⟩; rw [b, h2, if_neg (by omega)]
  ·have hi := List.idxOf_lt_length_of_mem hk
   have a := Zfw (x := ((rfn C N s).1.idxOf (keyC C (N.getD s []) (C.getD s 0)) : Int)) hc (.inr ⟨by omega, by rw [hm]; omega⟩)
   have b := Zmj (rfn C N s).2 ((rfn C N s).1.idxOf (keyC C (N.getD s []) (C.getD s 0)) : Int)
   rw [hl] at a b; refine ⟨a, ?_⟩; rw [b, h2, if_neg (by omega)]
  have a := Zfw (x := ((rfn C N s).1.length : Int)) hc (.inr ⟨by omega, by rw [hm]; omega⟩)
  have b := Zmj (rfn C N s).2 ((rfn C N s).1.length : Int)
  rw [hl] at a b; refine ⟨a, ?_⟩; rw [b, h2, if_pos rfl]; simp
theorem Zki {n : Nat} (hc : CanC C n) : ∀ {s}, s ≤ n → (∀ x ∈ (rfn C N s).1, ∃ c r, x = keyC C r c ∧ 0 ≤ c ∧ c < mxC C s) ∧ mxC C s ≤ (rfn C N s).1.length ∧
   ((rfn C N s).1.length = mxC C s → (rfn C N s).2 = (List.range s).map (fun i => C.getD i 0) ∧ ∀ (j : Nat) (x : List Int), (rfn C N s).1[j]? = some x → ∃ r, x = keyC C r j)
 | 0, _ => ⟨fun _ h => absurd h (by simp [rfn]), Nat.le_refl _, fun _ => ⟨rfl, fun _ _ h => by simp [rfn] at h⟩⟩
 | s + 1, hs => by
  obtain ⟨h1, h2, h3⟩ := Zki hc (by omega : s ≤ n)
  have hcs := hc s (by omega)
  have hm : mxC C (s + 1) = if C.getD s 0 = (mxC C s : Int) then mxC C s + 1 else mxC C s := rfl
  rcases Zcs C N s with ⟨h, e⟩ | ⟨h, hk, e⟩ | ⟨h, hk, e⟩ <;> rw [e]
  ·rw [hm, if_neg (by omega)]
   refine ⟨h1, h2, fun e => ⟨?_, (h3 e).2⟩⟩
   rw [List.range_succ, List.map_append, ← (h3 e).1, List.map_singleton, show C.getD s 0 = -1 by omega]
  ·obtain ⟨c, r, e1, e2, e3⟩ := h1 _ hk
   have ec : C.getD s 0 = c := (List.cons.inj e1).1
   have hlt : ¬ C.getD s 0 = (mxC C s : Int) := by omega
   rw [hm, if_neg hlt]
   refine ⟨h1, h2, fun e => ⟨?_, (h3 e).2⟩⟩
   have hi := List.idxOf_lt_length_of_mem hk
   obtain ⟨r', e4⟩ := (h3 e).2 _ _ (List.getElem?_eq_getElem hi)
   rw [List.getElem_idxOf hi] at e4
   have e5 : C.getD s 0 = ((rfn C N s).1.idxOf (keyC C (N.getD s []) (C.getD s 0)) : Int) := (List.cons.inj e4).1
   rw [List.range_succ, List.map_append, ← (h3 e).1, List.map_singleton, ← e5]
  by_cases hq : C.getD s 0 = (mxC C s : Int)
  ·rw [hm, if_pos hq]
   refine ⟨fun x hx => ?_, by simp only [List.length_append, List.length_singleton]; omega, fun e => ?_⟩
   ·rcases List.mem_append.1 hx with hx | hx
    ·obtain ⟨c, r, e1, e2, e3⟩ := h1 x hx; exact ⟨c, r, e1, e2, by omega⟩
    rw [List.mem_singleton.1 hx]; exact ⟨_, _, rfl, by omega, by omega⟩
   have e' : (rfn C N s).1.length = mxC C s := by simp only [List.length_append, List.length_singleton] at e; omega
   refine ⟨by rw [List.range_succ, List.map_append, ← (h3 e').1, List.map_singleton, hq, e'], fun j x hx => ?_⟩
   rcases Zad hx with ⟨a, b⟩ | ⟨a, b⟩
   ·exact (h3 e').2 j x b
   exact ⟨N.getD s [], by rw [b, a, e', ← hq]⟩
  rw [hm, if_neg hq]
  refine ⟨fun x hx => ?_, by simp only [List.length_append, List.length_singleton]; omega, fun e => ?_⟩
  ·rcases List.mem_append.1 hx with hx | hx
   ·exact h1 x hx
   rw [List.mem_singleton.1 hx]; exact ⟨_, _, rfl, by omega, by omega⟩
  simp only [List.length_append, List.length_singleton] at e; omega
end
def Xp (N : List (List Int)) (D0 : List Int) (n : Nat) : Nat → List Int
 | 0 => D0
 | i + 1 => (rfn (Xp N D0 n i) N n).2
def clsN (N : List (List Int)) (D0 : List Int) (n : Nat) (i : Nat) : Nat := (rfn (Xp N D0 n i) N n).1.length
section
variable {N : List (List Int)} {D0 : List Int} {n : Nat}
theorem Zmv (h0 : D0.length = n) : ∀ i, (Xp N D0 n i).length = n
 | 0 => h0
 | i + 1 => (Zet _ N n).1
theorem Zth (i : Nat) : clsN N D0 n i ≤ n := (Zet _ N n).2
theorem Zsg (C : List Int) : (List.range C.length).map (fun i => C.getD i 0) = C := by
 apply List.ext_getElem?
 intro i
 rcases Nat.lt_or_ge i C.length with h | h
 ·simp [h, List.getD_eq_getElem?_getD]
 rw [List.getElem?_eq_none (by simpa using h), List.getElem?_eq_none h]
theorem Zsc (i : Nat) : clsN N D0 n i ≤ clsN N D0 n (i + 1) := by
 have h := Zjo (Xp N D0 n i) N n
 have h2 := (Zki (N := N) (C := Xp N D0 n (i + 1)) h.1 (Nat.le_refl n)).2.1
 have e : mxC (Xp N D0 n (i + 1)) n = clsN N D0 n i := h.2
 rw [e] at h2; exact h2
theorem Znn (h0 : D0.length = n) {i : Nat} (h : clsN N D0 n (i + 1) = clsN N D0 n i) : Xp N D0 n (i + 2) = Xp N D0 n (i + 1) := by
 have h1 := Zjo (Xp N D0 n i) N n
 have e : mxC (Xp N D0 n (i + 1)) n = clsN N D0 n i := h1.2
 have h2 := (Zki (N := N) (C := Xp N D0 n (i + 1)) h1.1 (Nat.le_refl n)).2.2 (by rw [e]; exact h)
 have h3 : Xp N D0 n (i + 2) = (List.range n).map fun j => (Xp N D0 n (i + 1)).getD j 0 := h2.1
 rw [h3]
 have hl := Zmv (N := N) h0 (i + 1)
 have := Zsg (Xp N D0 n (i + 1))
 rw [hl] at this; exact this
theorem Zdz {i : Nat} (h : Xp N D0 n (i + 1) = Xp N D0 n i) : ∀ d, Xp N D0 n (i + d) = Xp N D0 n i
 | 0 => rfl
 | d + 1 => by
  show (rfn (Xp N D0 n (i + d)) N n).2 = _
  rw [Zdz h d]; exact h
theorem Znf {i : Nat} (h : ∀ j, j < i → clsN N D0 n (j + 1) ≠ clsN N D0 n j) : i ≤ clsN N D0 n i := by
 induction i with
 | zero => exact Nat.zero_le _
 | succ i ih =>
  have h1 := ih (fun j hj => h j (by omega))
  have h2 := h i (by omega)
  have h3 := Zsc (N := N) (D0 := D0) (n := n) i
  omega
theorem Zuo (h0 : D0.length = n) (d : Nat) : Xp N D0 n (n + 2 + d) = Xp N D0 n (n + 2) := by
 by_cases h : ∀ j, j < n + 1 → clsN N D0 n (j + 1) ≠ clsN N D0 n j
 ·have h1 := Znf h
  have h2 := Zth (N := N) (D0 := D0) (n := n) (n + 1)
  omega
 have ⟨j, hj, hq⟩ : ∃ j, j < n + 1 ∧ clsN N D0 n (j + 1) = clsN N D0 n j := by
  apply Classical.byContradiction; intro hh
  exact h fun j hj e => hh ⟨j, hj, e⟩
 have hs := Znn h0 hq
 have a := Zdz hs (n + 2 + d - (j + 1)); have b := Zdz hs (n + 2 - (j + 1))
 rw [show j + 1 + (n + 2 + d - (j + 1)) = n + 2 + d by omega] at a
 rw [show j + 1 + (n + 2 - (j + 1)) = n + 2 by omega] at b
 rw [a, b]
def clsF (N : List (List Int)) (D0 : List Int) (n : Nat) : List Int := Xp N D0 n (n + 2)
theorem Zqd (h0 : D0.length = n) {i : Nat} (h : Xp N D0 n (i + 1) = Xp N D0 n i) : Xp N D0 n i = clsF N D0 n := by
 rcases Nat.lt_or_ge i (n + 2) with hi | hi
 ·have a := Zdz h (n + 2 - i)
  rw [show i + (n + 2 - i) = n + 2 by omega] at a; exact a.symm
 have a := Zuo (N := N) h0 (i - (n + 2))
 rw [show n + 2 + (i - (n + 2)) = i by omega] at a; exact a
theorem Zna (h0 : D0.length = n) : Xp N D0 n (n + 1) = clsF N D0 n := by
 by_cases h : ∀ j, j < n + 1 → clsN N D0 n (j + 1) ≠ clsN N D0 n j
 ·have h1 := Znf h
  have h2 := Zth (N := N) (D0 := D0) (n := n) (n + 1)
  omega
 have ⟨j, hj, hq⟩ : ∃ j, j < n + 1 ∧ clsN N D0 n (j + 1) = clsN N D0 n j := by
  apply Classical.byContradiction; intro hh
  exact h fun j hj e => hh ⟨j, hj, e⟩
 have hs := Znn h0 hq
 have a := Zdz hs (n + 1 - (j + 1)); have b := Zdz hs (n + 2 - (j + 1))
 rw [show j + 1 + (n + 1 - (j + 1)) = n + 1 by omega] at a
 rw [show j + 1 + (n + 2 - (j + 1)) = n + 2 by omega] at b
 unfold clsF; rw [a, b]
end
def keyP (C : List Int) (N : List (List Int)) (s k : Nat) : List Int := C.getD s 0 :: ((N.getD s []).take k).map (keyE C)
section
variable {C : List Int} {N : List (List Int)} {s k : Nat} {r : List Int} {c t y : Int}
theorem Qd {β : Type} {l : List β} {i : Nat} {x d : β} (h : l[i]? = some x) : l.getD i d = x := by rw [List.getD_eq_getElem?_getD, h]; rfl
theorem Zqx (hc : C[s]? = some c) : [c] = keyP C N s 0 := by unfold keyP; rw [Qd hc]; rfl
theorem Ztd (hr : N[s]? = some r) (ht : r[k]? = some t) (h : t < 0) : keyP C N s k ++ [-1] = keyP C N s (k + 1) := by
 unfold keyP; rw [Qd hr, Zaw ht, List.map_append]; simp [keyE, h]
theorem Zti (hr : N[s]? = some r) (ht : r[k]? = some t) (h : ¬ t < 0) (hy : C[t.toNat]? = some y) : keyP C N s k ++ [y] = keyP C N s (k + 1) := by
 unfold keyP; rw [Qd hr, Zaw ht, List.map_append]; simp [keyE, h, List.getD_eq_getElem?_getD, hy]
theorem Zru (hr : N[s]? = some r) (hk : r.length ≤ k) : keyP C N s k = keyC C (N.getD s []) (C.getD s 0) := by
 unfold keyP keyC; rw [Qd hr, List.take_of_length_le hk]
theorem Zhi : (keyP C N s k).length ≤ k + 1 := by simp [keyP]; omega
end
theorem Zaf (C : List Int) (N : List (List Int)) : ∀ s, (rfn C N s).1.Nodup
 | 0 => List.nodup_nil
 | s + 1 => by
  rcases Zcs C N s with ⟨_, e⟩ | ⟨_, _, e⟩ | ⟨_, hk, e⟩ <;> rw [e]
  ·exact Zaf C N s
  ·exact Zaf C N s
  rw [List.nodup_append]
  exact ⟨Zaf C N s, by simp, fun a ha b hb hab => hk (by rw [← List.mem_singleton.1 hb, ← hab]; exact ha)⟩
def Znw (K : List (List Int)) (x : List Int) (k : Nat) (a : Int) : Prop := (a = -1 ∧ ∀ i y, i < k → K[i]? = some y → y ≠ x) ∨ (0 ≤ a ∧ K[a.toNat]? = some x)
theorem Zoi (K : List (List Int)) (x : List Int) : Znw K x 0 (-1) := .inl ⟨rfl, fun _ _ h => absurd h (by omega)⟩
theorem Zli {K : List (List Int)} {x y : List Int} {k : Nat} (hy : K[k]? = some y) (e : y = x) : Znw K x (k + 1) (k : Int) := .inr ⟨by omega, by rw [Int.toNat_natCast, hy, e]⟩
theorem Zjh {K : List (List Int)} {x y : List Int} {k : Nat} {a : Int} (h : Znw K x k a) (hy : K[k]? = some y) (e : y ≠ x) : Znw K x (k + 1) a := by
 rcases h with ⟨h1, h2⟩ | h
 ·exact .inl ⟨h1, fun i z hi hz => by
   by_cases q : i = k
   ·subst q; rw [hy] at hz; injection hz with hz; subst hz; exact e
   exact h2 i z (by omega) hz⟩
 exact .inr h
theorem Zax {K : List (List Int)} {x : List Int} {k : Nat} {a : Int} (h : Znw K x k a) (hk : K.length ≤ k) (hn : K.Nodup) : a = ixL K x := by
 rcases h with ⟨h1, h2⟩ | ⟨h1, h2⟩
 ·have : ¬ x ∈ K := fun hm => by
   obtain ⟨i, hi, e⟩ := List.getElem_of_mem hm
   exact h2 i _ (by omega) (List.getElem?_eq_getElem hi) e
  unfold ixL; rw [if_neg this]; exact h1
 obtain ⟨hl, he⟩ := List.getElem?_eq_some_iff.1 h2
 have hm : x ∈ K := he ▸ List.getElem_mem hl
 unfold ixL; rw [if_pos hm]
 have hi := List.idxOf_lt_length_of_mem hm
 have e2 : K[K.idxOf x]? = some x := by rw [List.getElem?_eq_getElem hi, List.getElem_idxOf hi]
 have := (List.getElem?_inj hl hn).1 (h2.trans e2.symm)
 omega
section
variable {C : List Int} {N : List (List Int)} {s : Nat} {c : Int}
theorem Zmo (hc : C[s]? = some c) (h : c < 0) : (rfn C N (s + 1)).1 = (rfn C N s).1 := by rw [Ztt (by rw [Qd hc]; exact h)]
theorem Zos (hc : C[s]? = some c) (h : c < 0) : (rfn C N s).2 ++ [-1] = (rfn C N (s + 1)).2 := by rw [Ztt (by rw [Qd hc]; exact h)]
theorem Zot {K : List (List Int)} {x : List Int} (h : ¬ ixL K x < 0) : x ∈ K := by
 apply Classical.byContradiction; intro hm; apply h; unfold ixL; rw [if_neg hm]; decide
theorem Zpb {K : List (List Int)} {x : List Int} (h : ixL K x < 0) : ¬ x ∈ K := fun hm => by unfold ixL at h; rw [if_pos hm] at h; omega
theorem Zvx (hc : C[s]? = some c) (h : ¬ c < 0) (hi : ¬ ixL (rfn C N s).1 (keyC C (N.getD s []) (C.getD s 0)) < 0) : (rfn C N (s + 1)).1 = (rfn C N s).1 := by rw [Zts (by rw [Qd hc]; exact h) (Zot hi)]
theorem Zvz (hc : C[s]? = some c) (h : ¬ c < 0) (hi : ¬ ixL (rfn C N s).1 (keyC C (N.getD s []) (C.getD s 0)) < 0) : (rfn C N s).2 ++ [ixL (rfn C N s).1 (keyC C (N.getD s []) (C.getD s 0))] = (rfn C N (s + 1)).2 := by
 rw [Zts (by rw [Qd hc]; exact h) (Zot hi)]; unfold ixL; rw [if_pos (Zot hi)]
theorem Zrm (hc : C[s]? = some c) (h : ¬ c < 0) (hi : ixL (rfn C N s).1 (keyC C (N.getD s []) (C.getD s 0)) < 0) : (rfn C N (s + 1)).1 = (rfn C N s).1 ++ [keyC C (N.getD s []) (C.getD s 0)] := by rw [Zlz (by rw [Qd hc]; exact h) (Zpb hi)]
theorem Zrk (hc : C[s]? = some c) (h : ¬ c < 0) (hi : ixL (rfn C N s).1 (keyC C (N.getD s []) (C.getD s 0)) < 0) : (rfn C N s).2 ++ [((rfn C N s).1.length : Int)] = (rfn C N (s + 1)).2 := by rw [Zlz (by rw [Qd hc]; exact h) (Zpb hi)]
end
section
variable {C : List Int} {N : List (List Int)} {s m : Nat} {c a : Int} {x : List Int}
theorem Zqz (hc : C[s]? = some c) (h : ¬ c < 0) (ek : x = keyC C (N.getD s []) (C.getD s 0)) (ia : a = ixL (rfn C N s).1 x) (hi : ¬ a < 0) : (rfn C N (s + 1)).1 = (rfn C N s).1 := by subst ia ek; exact Zvx hc h hi
theorem Ztu (hc : C[s]? = some c) (h : ¬ c < 0) (ek : x = keyC C (N.getD s []) (C.getD s 0)) (ia : a = ixL (rfn C N s).1 x) (hi : ¬ a < 0) : (rfn C N s).2 ++ [a] = (rfn C N (s + 1)).2 := by subst ia ek; exact Zvz hc h hi
theorem Zpf (hc : C[s]? = some c) (h : ¬ c < 0) (ek : x = keyC C (N.getD s []) (C.getD s 0)) (ia : a = ixL (rfn C N s).1 x) (hi : a < 0) : (rfn C N (s + 1)).1 = (rfn C N s).1 ++ [x] := by subst ia ek; exact Zrm hc h hi
theorem Zmd (hc : C[s]? = some c) (h : ¬ c < 0) (ek : x = keyC C (N.getD s []) (C.getD s 0)) (ia : a = ixL (rfn C N s).1 x) (hi : a < 0) (hm : m = (rfn C N s).1.length) : (rfn C N s).2 ++ [(m : Int)] = (rfn C N (s + 1)).2 := by subst ia ek hm; exact Zrk hc h hi
end
def Xq (A L : List Bool) (k : Nat) : List Int := (List.range k).map fun s => if L.getD s false = false then -1 else if A.getD s false then 1 else 0
theorem Zfd {A L : List Bool} {k : Nat} {a l : Bool} {x : Int} (ha : A[k]? = some a) (hl : L[k]? = some l) (hx : x = if l = false then -1 else if a then 1 else 0) : Xq A L k ++ [x] = Xq A L (k + 1) := by
 unfold Xq; rw [List.range_succ, List.map_append, List.map_singleton, Qd ha, Qd hl, hx]
theorem Zbi (A L : List Bool) (k : Nat) : (Xq A L k).length = k := by simp [Xq]
theorem Zno (N : List (List Int)) (D0 : List Int) (n : Nat) : (clsF N D0 n).length = n := (Zet _ N n).1
end Go.KLib

namespace Go.KLib
open Go.ChangeShapes Go.WideShapes Go.ChangeAt Go.RowKit Go.Deep Go.Joins
structure Gv where
 v : Sv
 e : Sv
def Gv.cs (p : Gv) : List Value := [.slice p.v.A p.v.n p.v.c, .slice p.e.A p.e.n p.e.c]
theorem Gv.len (p : Gv) : p.cs.length = 2 := rfl
theorem Gv.one (x : Gv) : ∀ y ∈ x.cs, y.oneCell' = true := by intro y hy; simp [Gv.cs] at hy; rcases hy with rfl | rfl <;> rfl
structure GD where
 V : List Int
 E : List GEdge
def RdG (w : World) (L B : Nat) (vs : List Gv) (xs : List GD) : Prop :=
 vs.length = xs.length ∧ ∀ (i : Nat) (p : Gv) (x : GD), vs[i]? = some p → xs[i]? = some x → Ls ics 1 w L B p.v.v x.V ∧ Ls GEdge.cs 4 w L B p.e.v x.E
section
variable {L L' B B' : Nat} {w w' : World} {vs : List Gv} {xs : List GD} {ws : List Nat}
theorem RdG.ch (h : RdG w L B vs xs) (c : Ch ws w w') (hw : ∀ i ∈ ws, i < L ∨ B ≤ i) : RdG w' L B vs xs := ⟨h.1, fun i v x a b => ⟨(h.2 i v x a b).1.ch c hw, (h.2 i v x a b).2.ch c hw⟩⟩
theorem RdG.ch0 (h : RdG w L B vs xs) (c : Ch [] w w') : RdG w' L B vs xs := h.ch c (by simp)
theorem RdG.up (h : RdG w L B vs xs) (hL : L' ≤ L) (hB : B ≤ B') : RdG w L' B' vs xs := ⟨h.1, fun i v x a b => ⟨(h.2 i v x a b).1.up hL hB, (h.2 i v x a b).2.up hL hB⟩⟩
theorem RdG.here (h : RdG w L B vs xs) : RdG w L w.heap.size vs xs := ⟨h.1, fun i v x a b => ⟨(h.2 i v x a b).1.here (by decide), (h.2 i v x a b).2.here (by decide)⟩⟩
theorem RdG.nil : RdG w L B [] [] := ⟨rfl, fun _ _ _ h => by simp at h⟩
theorem Ol.within {α : Type} {cs : α → List Value} {e k : Nat} {w : World} {v : Value} {xs : List α} {L B L0 B0 : Nat} (h : Ol cs e k w v xs) (hl : Lo L0 v) (hh : ∀ g ∈ bl v, g < B0) (h1 : L ≤ L0) (h2 : B0 ≤ B) : Ls cs k w L B v xs := by
 have hs := h.ls
 refine ⟨hs.1, ?_⟩
 obtain ⟨A, c, hv, h3, h4, h5⟩ := hs.2
 refine ⟨A, c, hv, h3, h4, fun hp => ?_⟩
 obtain ⟨ad, ha, hat⟩ := h5 hp
 have hm : ad.block ∈ bl v := by rw [hv, ha]; simp [bl, Value.ownBlock]
 exact ⟨ad, ha, ⟨Nat.le_trans h1 (hl _ hm), Nat.lt_of_lt_of_le (hh _ hm) h2⟩, hat.2⟩
theorem RdG.snoc {p : Gv} {x : GD} (r : RdG w L B vs xs) (h1 : Ls ics 1 w L B p.v.v x.V) (h2 : Ls GEdge.cs 4 w L B p.e.v x.E) : RdG w L B (vs ++ [p]) (xs ++ [x]) := by
 refine ⟨by simp [r.1], fun i u y a b => ?_⟩
 rcases Zad a with ⟨a1, a2⟩ | ⟨a1, a2⟩
 ·rcases Zad b with ⟨b1, b2⟩ | ⟨b1, b2⟩
  ·exact r.2 i u y a2 b2
  have := r.1; omega
 rcases Zad b with ⟨b1, b2⟩ | ⟨b1, b2⟩
 ·have := r.1; omega
 subst a2 b2; exact ⟨h1, h2⟩
theorem RdG.get (h : RdG w L B vs xs) {i : Nat} {y : Gv} (hy : vs[i]? = some y) : ∃ x, xs[i]? = some x ∧ Ls ics 1 w L B y.v.v x.V ∧ Ls GEdge.cs 4 w L B y.e.v x.E := by
 have hi := (List.getElem?_eq_some_iff.1 hy).1
 have hx : xs[i]? = some (xs[i]'(by have := h.1; omega)) := List.getElem?_eq_getElem _
 exact ⟨_, hx, h.2 i y _ hy hx⟩
end
theorem RdG.at_ {w : World} {L B : Nat} {vs : List Gv} {xs : List GD} (h : RdG w L B vs xs) : vs.length = xs.length := h.1
section
variable {H : Type} {enc : TypeId × Value → H} {P : Program} {w : World} {base : Nat} {spare : Nat → Bool} {held : Bool}
end
end Go.KLib

namespace Go.KLib
section
variable {T : Type} [DecidableEq T]
def bx (nx : T → Nat → T) (e : T × List Int) (E : List (T × List Int)) : Nat → List (T × List Int)
 | 0 => E
 | k + 1 => if nx e.1 k ∈ (bx nx e E k).map (·.1) then bx nx e E k else bx nx e E k ++ [(nx e.1 k, e.2 ++ [(k : Int)])]
def bE (nx : T → Nat → T) (t0 : T) : Nat → List (T × List Int)
 | 0 => [(t0, [])]
 | k + 1 => match (bE nx t0 k)[k]? with
  | none => bE nx t0 k
  | some e => bx nx e (bE nx t0 k) 9
variable {nx : T → Nat → T} {t0 : T} {ts : T → Bool}
theorem Zmp (e : T × List Int) (E : List (T × List Int)) : ∀ k, ∃ D, bx nx e E k = E ++ D
 | 0 => ⟨[], by simp [bx]⟩
 | k + 1 => by
  obtain ⟨D, h⟩ := Zmp e E k
  unfold bx; split
  ·exact ⟨D, h⟩
  exact ⟨D ++ [(nx e.1 k, e.2 ++ [(k : Int)])], by rw [h, List.append_assoc]⟩
theorem Zby {e : T × List Int} {E : List (T × List Int)} {k i : Nat} {x : T × List Int} (h : E[i]? = some x) : (bx nx e E k)[i]? = some x := by
 obtain ⟨D, hD⟩ := Zmp (nx := nx) e E k
 rw [hD, List.getElem?_append_left (List.getElem?_eq_some_iff.1 h).1]; exact h
theorem Zvl (e : T × List Int) (E : List (T × List Int)) (k : Nat) : E.length ≤ (bx nx e E k).length := by
 obtain ⟨D, hD⟩ := Zmp (nx := nx) e E k
 rw [hD, List.length_append]; omega
theorem Zah {k : Nat} {e : T × List Int} (h : (bE nx t0 k)[k]? = some e) : bE nx t0 (k + 1) = bx nx e (bE nx t0 k) 9 := by
 show (match (bE nx t0 k)[k]? with | none => _ | some e => _) = _
 rw [h]
theorem Zfs {k : Nat} (h : (bE nx t0 k).length ≤ k) : bE nx t0 (k + 1) = bE nx t0 k := by
 show (match (bE nx t0 k)[k]? with | none => _ | some e => _) = _
 rw [List.getElem?_eq_none h]
theorem Zsy {i : Nat} {x : T × List Int} : ∀ {k j}, (bE nx t0 k)[i]? = some x → k ≤ j → (bE nx t0 j)[i]? = some x
 | k, j, h, hj => by
  induction j with
  | zero => rw [show k = 0 by omega] at h; exact h
  | succ j ih =>
   rcases Nat.eq_or_lt_of_le hj with e | e
   ·rw [← e]; exact h
   have h1 := ih (by omega)
   rcases hq : (bE nx t0 j)[j]? with _ | y
   ·rw [Zfs (List.getElem?_eq_none_iff.1 hq)]; exact h1
   rw [Zah hq]; exact Zby h1
theorem Zke {e : T × List Int} {E : List (T × List Int)} (h : (E.map (·.1)).Nodup) : ∀ k, ((bx nx e E k).map (·.1)).Nodup
 | 0 => h
 | k + 1 => by
  unfold bx; split
  ·exact Zke h k
  rename_i hn
  rw [List.map_append, List.nodup_append]
  exact ⟨Zke h k, by simp, fun a ha b hb hab => hn (by simp only [List.map_cons, List.map_nil, List.mem_singleton] at hb; rw [← hb, ← hab]; exact ha)⟩
theorem Zhf : ∀ k, ((bE nx t0 k).map (·.1)).Nodup
 | 0 => by simp [bE]
 | k + 1 => by
  rcases hq : (bE nx t0 k)[k]? with _ | y
  ·rw [Zfs (List.getElem?_eq_none_iff.1 hq)]; exact Zhf k
  rw [Zah hq]; exact Zke (Zhf k) 9
theorem Zoo {Q : T → Prop} {e : T × List Int} {E : List (T × List Int)} (h : ∀ x ∈ E, Q x.1) (he : ∀ k, k < 9 → Q (nx e.1 k)) : ∀ k, k ≤ 9 → ∀ x ∈ bx nx e E k, Q x.1
 | 0, _ => h
 | k + 1, hk => by
  unfold bx; split
  ·exact Zoo h he k (by omega)
  intro x hx
  rcases List.mem_append.1 hx with hx | hx
  ·exact Zoo h he k (by omega) x hx
  rw [List.mem_singleton.1 hx]; exact he k (by omega)
theorem Zky {Q : T → Prop} (h0 : Q t0) (hn : ∀ t k, Q t → k < 9 → Q (nx t k)) : ∀ k, ∀ x ∈ bE nx t0 k, Q x.1
 | 0 => fun x hx => by rw [show bE nx t0 0 = [(t0, [])] from rfl, List.mem_singleton] at hx; rw [hx]; exact h0
 | k + 1 => by
  rcases hq : (bE nx t0 k)[k]? with _ | y
  ·rw [Zfs (List.getElem?_eq_none_iff.1 hq)]; exact Zky h0 hn k
  rw [Zah hq]
  exact Zoo (Zky h0 hn k) (fun j hj => hn _ _ (Zky h0 hn k y (Yv hq)) hj) 9 (Nat.le_refl _)
def BRes (nx : T → Nat → T) (t0 : T) (ts : T → Bool) (r : List Int × Bool) : Prop :=
 (r.2 = true ∧ ∃ k e, (bE nx t0 k)[k]? = some e ∧ ts e.1 = true ∧ r.1 = e.2 ∧ ∀ j x, j < k → (bE nx t0 j)[j]? = some x → ts x.1 = false) ∨
 (r = ([], false) ∧ ∃ k, (bE nx t0 k).length ≤ k ∧ ∀ j x, j < k → (bE nx t0 j)[j]? = some x → ts x.1 = false)
theorem Znp : ∀ {k j : Nat}, (bE nx t0 k).length ≤ k → k ≤ j → bE nx t0 j = bE nx t0 k
 | k, j, h, hj => by
  induction j with
  | zero => rw [show k = 0 by omega]
  | succ j ih =>
   rcases Nat.eq_or_lt_of_le hj with e | e
   ·rw [← e]
   have h1 := ih (by omega)
   rw [Zfs (by rw [h1]; omega), h1]
end
end Go.KLib

namespace Go.KLib
open Go.Sort Go.RowKit
end Go.KLib

namespace Go.KLib
end Go.KLib

namespace Go.KLib
open Go.Sort Go.RowKit Go.Shelf Go.Proofs
section
variable {P : Program} {ρ : Ren} {w : World} {e : TypeId} {v : Value} {a : List Int}
end
end Go.KLib

namespace Go.KLib
def SepG (vs : List Gv) : Prop := ∀ u ∈ vs, ∀ t ∈ vs, ∀ g ∈ bl u.v.v, g ∉ bl t.e.v
def OdG (e1 e2 : Nat) (w : World) (lo hi : Nat) (vs : List Gv) (xs : List GD) : Prop :=
 vs.length = xs.length ∧ Od ics e1 1 w lo hi (vs.map (·.v)) (xs.map (·.V)) ∧ Od GEdge.cs e2 4 w lo hi (vs.map (·.e)) (xs.map (·.E)) ∧ SepG vs
section
variable {e1 e2 lo hi hi' : Nat} {w w' : World} {vs : List Gv} {xs : List GD} {ws : List Nat}
theorem OdG.ch (h : OdG e1 e2 w lo hi vs xs) (c : Ch ws w w') (hw : ∀ i ∈ ws, i < lo ∨ hi ≤ i) : OdG e1 e2 w' lo hi vs xs := ⟨h.1, h.2.1.ch c hw, h.2.2.1.ch c hw, h.2.2.2⟩
theorem OdG.ch0 (h : OdG e1 e2 w lo hi vs xs) (c : Ch [] w w') : OdG e1 e2 w' lo hi vs xs := h.ch c (by simp)
theorem OdG.up {lo' : Nat} (h : OdG e1 e2 w lo hi vs xs) (hl : lo' ≤ lo) (hh : hi ≤ hi') : OdG e1 e2 w lo' hi' vs xs := ⟨h.1, h.2.1.up hl hh, h.2.2.1.up hl hh, h.2.2.2⟩
theorem OdG.nil : OdG e1 e2 w lo hi [] [] := ⟨rfl, Od.nil, Od.nil, fun _ h => by cases h⟩
theorem Zjp {α β : Type} {l : List α} {f : α → β} {i : Nat} {y : α} (h : l[i]? = some y) : (l.map f)[i]? = some (f y) := by rw [List.getElem?_map, h]; rfl
theorem OdG.get (h : OdG e1 e2 w lo hi vs xs) {i : Nat} {y : Gv} (hy : vs[i]? = some y) : ∃ x, xs[i]? = some x ∧ Ol ics e1 1 w y.v.v x.V ∧ Ol GEdge.cs e2 4 w y.e.v x.E ∧ (∀ g ∈ bl y.v.v, lo ≤ g ∧ g < hi) ∧ (∀ g ∈ bl y.e.v, lo ≤ g ∧ g < hi) ∧ (∀ g ∈ bl y.v.v, g ∉ bl y.e.v) := by
 have hi := (List.getElem?_eq_some_iff.1 hy).1
 have hx : xs[i]? = some (xs[i]'(by have := h.1; omega)) := List.getElem?_eq_getElem _
 have h1 := h.2.1.2.1 i _ _ (Zjp (f := (·.v)) hy) (Zjp (f := (·.V)) hx)
 have h2 := h.2.2.1.2.1 i _ _ (Zjp (f := (·.e)) hy) (Zjp (f := (·.E)) hx)
 exact ⟨_, hx, h1.1, h2.1, h1.2, h2.2, h.2.2.2 y (Yv hy) y (Yv hy)⟩
theorem OdG.rng (h : OdG e1 e2 w lo hi vs xs) {u : Gv} (hu : u ∈ vs) : (∀ g ∈ bl u.v.v, lo ≤ g ∧ g < hi) ∧ (∀ g ∈ bl u.e.v, lo ≤ g ∧ g < hi) := by
 obtain ⟨i, hi, rfl⟩ := List.getElem_of_mem hu
 obtain ⟨x, _, _, _, r1, r2, _⟩ := h.get (List.getElem?_eq_getElem hi)
 exact ⟨r1, r2⟩
theorem OdG.snoc (h : OdG e1 e2 w lo hi vs xs) {p : Gv} {x : GD} (o1 : Ol ics e1 1 w p.v.v x.V) (o2 : Ol GEdge.cs e2 4 w p.e.v x.E) (l1 : Lo hi p.v.v) (l2 : Lo hi p.e.v) (u1 : ∀ g ∈ bl p.v.v, g < hi') (u2 : ∀ g ∈ bl p.e.v, g < hi') (hd : ∀ g ∈ bl p.v.v, g ∉ bl p.e.v) (hh : hi ≤ hi') (hlo : lo ≤ hi) : OdG e1 e2 w lo hi' (vs ++ [p]) (xs ++ [x]) := by
 refine ⟨by simp [h.1], ?_, ?_, fun u hu t ht g hg hm => ?_⟩
 ·rw [List.map_append, List.map_append]; exact h.2.1.snoc o1 l1 u1 hh hlo
 ·rw [List.map_append, List.map_append]; exact h.2.2.1.snoc o2 l2 u2 hh hlo
 rcases List.mem_append.1 hu with hu | hu <;> rcases List.mem_append.1 ht with ht | ht
 ·exact h.2.2.2 u hu t ht g hg hm
 ·rw [List.mem_singleton.1 ht] at hm
  have a := ((h.rng hu).1 g hg).2; have b := l2 g hm; omega
 ·rw [List.mem_singleton.1 hu] at hg
  have a := ((h.rng ht).2 g hm).2; have b := l1 g hg; omega
 rw [List.mem_singleton.1 hu] at hg; rw [List.mem_singleton.1 ht] at hm; exact hd g hg hm
def SepH (o : Value) (vs : List Gv) : Prop := ∀ u ∈ vs, (∀ g ∈ bl u.v.v, g ∉ bl o) ∧ ∀ g ∈ bl u.e.v, g ∉ bl o
end
end Go.KLib

namespace Go.KLib
end Go.KLib

namespace Go.KLib
theorem SepH.of {o o' : Value} {vs : List Gv} (h : SepH o vs) (e : bl o' = bl o) : SepH o' vs := fun u hu => ⟨fun g hg hm => (h u hu).1 g hg (e ▸ hm), fun g hg hm => (h u hu).2 g hg (e ▸ hm)⟩
end Go.KLib

namespace Go.KLib
open Go.MapKept
structure KeyT (P : Program) (t : TypeId) {T : Type} [DecidableEq T] (kv : T → Value) : Prop where
 check : ∀ (w : World) (e : Bool) (x : T), (Instr.checkKey e 10000 t (kv x)).run P w = .ok () w
 eq : ∀ (w : World) (x y : T), (Op.equal t (kv x) (kv y)).run P w = .ok (decide (x = y)) w
 now : ∃ d, P.underlying t = some d ∧ ((∀ x y, Instr.sameNow d (kv x) (kv y) = some (decide (x = y))) ∨ ∀ x y, Instr.sameNow d (kv x) (kv y) = none)
def Mp {T : Type} (kv : T → Value) (w : World) (b : Nat) (ks : List T) : Prop :=
 ∃ es clock, w.heap[b]? = some (.map es clock) ∧ es.toList.map (fun e => (e.key, e.val)) = ks.map (fun t => (kv t, Value.bool true))
def FndR {T : Type} (x : T) (ks : List T) (r : Option (Nat × Value)) : Prop := (r = none ∧ x ∉ ks) ∨ ((∃ i, r = some (i, .bool true)) ∧ x ∈ ks)
section
variable {P : Program} {t : TypeId} {T : Type} [DecidableEq T] {kv : T → Value} {w w' : World} {b : Nat} {ks : List T} {ws : List Nat}
omit [DecidableEq T] in
theorem Mp.lt (h : Mp kv w b ks) : b < w.heap.size := by
 obtain ⟨es, c, hb, _⟩ := h
 rcases Nat.lt_or_ge b w.heap.size with hlt | hge
 ·exact hlt
 rw [Array.getElem?_eq_none hge] at hb; cases hb
omit [DecidableEq T] in
theorem Mp.ch (h : Mp kv w b ks) (c : Ch ws w w') (hn : b ∉ ws) : Mp kv w' b ks := by
 have hl := h.lt
 obtain ⟨es, k, hb, he⟩ := h
 exact ⟨es, k, (c.block b hl hn).trans hb, he⟩
omit [DecidableEq T] in
theorem Mp.ch0 (h : Mp kv w b ks) (c : Ch [] w w') : Mp kv w' b ks := h.ch c (by simp)
theorem Znl {d : TypeDesc} (hd : ∀ x y, Instr.sameNow d (kv x) (kv y) = some (decide (x = y))) (x : T) : ∀ (es : List MapEntry) (ks : List T) (i : Nat), es.map (fun e => (e.key, e.val)) = ks.map (fun t => (kv t, Value.bool true)) →
   ∃ r, Instr.findNow d (kv x) es i = some r ∧ FndR x ks r
 | [], ks, i, h => by
  cases ks with
  | nil => exact ⟨none, rfl, .inl ⟨rfl, List.not_mem_nil⟩⟩
  | cons a qs => simp at h
 | e :: es, ks, i, h => by
  cases ks with
  | nil => simp at h
  | cons a qs =>
   simp only [List.map_cons, List.cons.injEq, Prod.mk.injEq] at h
   obtain ⟨⟨h1, h2⟩, h3⟩ := h
   unfold Instr.findNow
   rw [h1, hd, h2]
   by_cases hx : x = a
   ·simp only [hx, decide_true]
    exact ⟨_, rfl, .inr ⟨⟨i, rfl⟩, by simp⟩⟩
   simp only [hx, decide_false]
   obtain ⟨r, hr, hf⟩ := Znl hd x es qs (i + 1) h3
   refine ⟨r, hr, ?_⟩
   rcases hf with ⟨f1, f2⟩ | ⟨f1, f2⟩
   ·exact .inl ⟨f1, by simp [hx, f2]⟩
   exact .inr ⟨f1, List.mem_cons_of_mem _ f2⟩
theorem Znk (K : KeyT P t kv) (x : T) : ∀ (es : List MapEntry) (ks : List T) (i : Nat), es.map (fun e => (e.key, e.val)) = ks.map (fun t => (kv t, Value.bool true)) →
   ∃ r, (Instr.findAsking t (kv x) es i).run P w = .ok r w ∧ FndR x ks r
 | [], ks, i, h => by
  cases ks with
  | nil => exact ⟨none, by simp [Instr.findAsking], .inl ⟨rfl, List.not_mem_nil⟩⟩
  | cons a qs => simp at h
 | e :: es, ks, i, h => by
  cases ks with
  | nil => simp at h
  | cons a qs =>
   simp only [List.map_cons, List.cons.injEq, Prod.mk.injEq] at h
   obtain ⟨⟨h1, h2⟩, h3⟩ := h
   unfold Instr.findAsking
   by_cases hx : x = a
   ·refine ⟨some (i, .bool true), ?_, .inr ⟨⟨i, rfl⟩, by simp [hx]⟩⟩
    simp [h1, h2, K.eq, hx]
   obtain ⟨r, hr, hf⟩ := Znk K x es qs (i + 1) h3
   refine ⟨r, ?_, ?_⟩
   ·simp [h1, K.eq, hx, hr]
   rcases hf with ⟨f1, f2⟩ | ⟨f1, f2⟩
   ·exact .inl ⟨f1, by simp [hx, f2]⟩
   exact .inr ⟨f1, List.mem_cons_of_mem _ f2⟩
theorem Zng (K : KeyT P t kv) (x : T) (es : List MapEntry) (ks : List T) (h : es.map (fun e => (e.key, e.val)) = ks.map (fun t => (kv t, Value.bool true))) :
   ∃ r, (Instr.findKey t (kv x) es).run P w = .ok r w ∧ FndR x ks r := by
 obtain ⟨d, hu, hd⟩ := K.now
 rcases hd with hd | hd
 ·obtain ⟨r, hr, hf⟩ := Znl hd x es ks 0 h
  exact ⟨r, by simp [Instr.findKey, run_underlying hu, hr], hf⟩
 obtain ⟨r, hr, hf⟩ := Znk (w := w) K x es ks 0 h
 refine ⟨r, ?_, hf⟩
 cases es with
 | nil =>
  have hr2 : r = none := by simp [Instr.findAsking] at hr; exact hr.symm
  simp [Instr.findKey, run_underlying hu, Instr.findNow, hr2]
 | cons e es =>
  cases ks with
  | nil => simp at h
  | cons a qs =>
   have h1 : e.key = kv a := by
    simp only [List.map_cons, List.cons.injEq, Prod.mk.injEq] at h
    exact h.1.1
   simp [Instr.findKey, run_underlying hu, Instr.findNow, h1, hd, hr]
end
section
variable {P : Program} {N : Nat} {w : World} {l : KL} {dst : Option Tmp} {ty : TypeId} {pos : String} {aft : Array Edge} {gd : Option (Nat × Bool)} {K' : Value → World → Prop} {t kt et : TypeId} {T : Type} [DecidableEq T] {kv : T → Value} {b : Nat} {ks : List T}
omit [DecidableEq T] in
theorem Zlb (kv : T → Value) (k : ∀ b w', Mp kv w' b [] → Ch [] w w' → b = w.heap.size → K' (.map (some b)) w') : Step P l ⟨dst, .makeMap t none, ty, pos, aft, gd⟩ w K' := by
 refine Step.of (v := .map (some w.heap.size)) (w' := w.alloc (.map #[] 0)) (fun ρ hρ => ?_) (k _ _ ⟨#[], 0, heap_alloc_new w _, rfl⟩ (Ch.alloc w _) rfl)
 simp [execOp, Instr.makeMap]
theorem Zjf (hu : P.underlying t = some (.map kt et)) (K : KeyT P kt kv) (x : T) (hm : Mp kv w b ks) (hx : x ∉ ks) :
   ∃ w', (Instr.mapUpdate t (.map (some b)) (kv x) (.bool true)).run P w = .ok () w' ∧ Mp kv w' b (ks ++ [x]) ∧ Ch [b] w w' := by
 have hl := hm.lt
 obtain ⟨es, c, hb, he⟩ := hm
 obtain ⟨r, hr, hf⟩ := Zng (w := w) K x es.toList ks he
 have hn : r = none := by
  rcases hf with ⟨f1, _⟩ | ⟨_, f2⟩
  ·exact f1
  exact absurd f2 hx
 subst hn
 refine ⟨{ w with heap := w.heap.setIfInBounds b (.map (es.push { key := kv x, val := .bool true, born := c }) (c + 1)) }, ?_, ⟨es.push { key := kv x, val := .bool true, born := c }, c + 1, ?_, ?_⟩, ⟨rfl, rfl, rfl, by simp, fun i hi hn => ?_⟩⟩
 ·simp [Instr.mapUpdate, run_underlying hu, MapKept.run_getObj_map hb, K.check, hr, MapKept.run_setObj_map _ hb]
 ·simp [Array.getElem?_setIfInBounds, hl]
 ·simp [he]
 simp at hn
 simp [Array.getElem?_setIfInBounds, Ne.symm hn]
theorem Znm {m k x : Operand} (y : T) (hu : P.underlying t = some (.map kt et)) (K : KeyT P kt kv) (hm : Mp kv w b ks) (h1 : ev l m = some (.map (some b))) (h2 : ev l k = some (kv y)) (h3 : ev l x = some (.bool true)) (hx : y ∉ ks)
   (h : ∀ w', Mp kv w' b (ks ++ [y]) → Ch [b] w w' → K' undef w') : Step P l ⟨dst, .mapUpdate t m k x, ty, pos, aft, gd⟩ w K' := by
 obtain ⟨w', hr, a, c⟩ := Zjf hu K y hm hx
 refine Step.ofU (w' := w') (fun ρ hρ => ?_) (h w' a c)
 simp [execOp, hρ _ _ h1, hρ _ _ h2, hρ _ _ h3, hr]
theorem Zni {m k x : Operand} (y : T) (hu : P.underlying t = some (.map kt et)) (K : KeyT P kt kv) (hm : Mp kv w b ks) (h1 : ev l m = some (.map (some b))) (h2 : ev l k = some (kv y)) (h3 : ev l x = some (.bool true)) (hx : y ∉ ks)
   (h : ∀ w', Mp kv w' b (ks ++ [y]) → Ch [b] w w' → K' undef w') : Step P l ⟨dst, .insert t m k x, ty, pos, aft, gd⟩ w K' := by
 obtain ⟨w', hr, a, c⟩ := Zjf hu K y hm hx
 refine Step.ofU (w' := w') (fun ρ hρ => ?_) (h w' a c)
 simp [execOp, hρ _ _ h1, hρ _ _ h2, hρ _ _ h3, hr]
theorem Zlf {m k : Operand} (y : T) (hu : P.underlying t = some (.map kt et)) (hz : Xg P et = some (.bool false)) (K : KeyT P kt kv) (hm : Mp kv w b ks) (h1 : ev l m = some (.map (some b))) (h2 : ev l k = some (kv y)) :
   Qu P l ⟨dst, .lookup t m k false, ty, pos, aft, gd⟩ w (.bool (decide (y ∈ ks))) w := fun ρ hρ => by
 obtain ⟨es, c, hb, he⟩ := hm
 obtain ⟨r, hr, hf⟩ := Zng (w := w) K y es.toList ks he
 rcases hf with ⟨f1, f2⟩ | ⟨⟨i, f1⟩, f2⟩
 ·subst f1
  simp [execOp, hρ _ _ h1, hρ _ _ h2, Instr.lookup, run_underlying hu, MapKept.run_getObj_map hb, K.check, hr, Zfb hz, f2]
 subst f1
 simp [execOp, hρ _ _ h1, hρ _ _ h2, Instr.lookup, run_underlying hu, MapKept.run_getObj_map hb, K.check, hr, f2]
end
structure St2 where
 a : Int
 b : Int
 deriving DecidableEq
def St2.cs (s : St2) : List Value := [.int .i64 s.a, .int .i64 s.b]
theorem St2.len (s : St2) : s.cs.length = 2 := rfl
theorem St2.one (x : St2) : ∀ y ∈ x.cs, y.oneCell' = true := by intro y hy; simp [St2.cs] at hy; rcases hy with rfl | rfl <;> rfl
def kvI (x : Int) : Value := .int .i64 x
def kvS (x : St2) : Value := .agg #[.int .i64 x.a, .int .i64 x.b]
section
variable {P : Program} {t : TypeId}
theorem Zkf (h : P.underlying t = some (.int .i64)) : KeyT P t kvI := by
 refine ⟨fun w e x => ?_, fun w x y => ?_, ⟨_, h, .inl fun x y => ?_⟩⟩
 ·unfold Instr.checkKey; simp [run_underlying h, kvI]
 ·exact run_equalIn_int w 9999 t .i64 .i64 x y h
 simp [Instr.sameNow, kvI]; rfl
theorem Zsn {β : Type} {fs : Array β} (h : fs.size = 2) : ∃ a b, fs = #[a, b] := by
 obtain ⟨l⟩ := fs
 match l, h with
 | [a, b], _ => exact ⟨a, b, rfl⟩
theorem Zkd (h : Zct P t 2 = true) : KeyT P t kvS := by
 have hi := h
 unfold Zct at h
 cases hu : P.underlying t with
 | none => simp [hu] at h
 | some dd =>
  cases dd with
  | struct fs =>
   simp only [hu, Bool.and_eq_true, Bool.not_eq_true', beq_iff_eq, List.all_eq_true, List.mem_range] at h
   obtain ⟨⟨⟨h1, h2⟩, h3⟩, h4⟩ := h
   obtain ⟨f0, f1, rfl⟩ := Zsn h1
   have a0 := h4 0 (by omega)
   have a1 := h4 1 (by omega)
   simp only [List.getElem?_toArray, List.getElem?_cons_zero, List.getElem?_cons_succ, Bool.and_eq_true, bne_iff_ne, beq_iff_eq] at a0 a1
   have u0 : P.underlying f0.type = some (.int .i64) := by
    have h5 := a0.2
    split at h5
    ·assumption
    cases h5
   have u1 : P.underlying f1.type = some (.int .i64) := by
    have h5 := a1.2
    split at h5
    ·assumption
    cases h5
   refine ⟨fun w e x => ?_, fun w x y => ?_, ⟨_, hu, .inr fun x y => ?_⟩⟩
   ·have p0 := Zfg (P := P) (w := w) (cs := #[.int .i64 x.a, .int .i64 x.b]) (i := f0.offset) (v := .int .i64 x.a) u0 (by rw [a0.1.2]; rfl)
    have p1 := Zfg (P := P) (w := w) (cs := #[.int .i64 x.a, .int .i64 x.b]) (i := f1.offset) (v := .int .i64 x.b) u1 (by rw [a1.1.2]; rfl)
    unfold Instr.checkKey
    simp [run_underlying hu, kvS, a0.1.1, a1.1.1, p0, p1]
    unfold Instr.checkKey
    simp [run_underlying u0, run_underlying u1, p1]
   ·have := (Zob (P := P) (w := w) [x.a, x.b] [y.a, y.b] hi rfl).1
    simp only [List.map_cons, List.map_nil] at this
    rw [show Op.equal t (kvS x) (kvS y) = Op.equalIn 10000 t (.agg #[.int .i64 x.a, .int .i64 x.b]) (.agg #[.int .i64 y.a, .int .i64 y.b]) from rfl, this]
    congr 1
    obtain ⟨xa, xb⟩ := x
    obtain ⟨ya, yb⟩ := y
    simp
   rfl
  | _ => simp [hu] at h
end
end Go.KLib

namespace Go.KLib
def val (w : List Int) : Nat := w.foldl (fun a c => 9 * a + c.toNat + 1) 0
def okW (w : List Int) : Prop := ∀ c ∈ w, 0 ≤ c ∧ c ≤ 8
theorem Zhs : val [] = 0 := rfl
theorem Zch (w : List Int) (c : Int) : val (w ++ [c]) = 9 * val w + c.toNat + 1 := by simp [val]
theorem Zmb : okW [] := fun _ h => by cases h
theorem Zew {w : List Int} {c : Int} : okW (w ++ [c]) ↔ okW w ∧ (0 ≤ c ∧ c ≤ 8) := by
 constructor
 ·intro h; exact ⟨fun x hx => h x (List.mem_append_left _ hx), h c (by simp)⟩
 intro h x hx
 rcases List.mem_append.1 hx with hx | hx
 ·exact h.1 x hx
 rw [List.mem_singleton.1 hx]; exact h.2
theorem Zcz {α : Type} {p : List α → Prop} (h0 : p []) (h1 : ∀ u c, p u → p (u ++ [c])) (w : List α) : p w := by
 have h : ∀ n (w : List α), w.length = n → p w := by
  intro n
  induction n with
  | zero => intro w hw; rw [List.eq_nil_of_length_eq_zero hw]; exact h0
  | succ n ih =>
   intro w hw
   have hne : w ≠ [] := by intro e; rw [e] at hw; cases hw
   rw [← List.dropLast_concat_getLast hne]
   exact h1 _ _ (ih _ (by simp [hw]))
 exact h _ w rfl
theorem Zuv : ∀ {u v : List Int}, okW u → okW v → val u = val v → u = v := by
 intro u
 induction u using Zcz with
 | h0 =>
  intro v _ _ h
  induction v using Zcz with
  | h0 => rfl
  | h1 v c _ => rw [Zch] at h; rw [Zhs] at h; omega
 | h1 u c ih =>
  intro v hu hv h
  induction v using Zcz with
  | h0 => rw [Zch, Zhs] at h; omega
  | h1 v d _ =>
   rw [Zch, Zch] at h
   obtain ⟨hu1, hc⟩ := Zew.1 hu
   obtain ⟨hv1, hd⟩ := Zew.1 hv
   rw [ih hu1 hv1 (by omega), show c = d by omega]
def rep9 : Nat → Nat
 | 0 => 0
 | n + 1 => 9 * rep9 n + 1
theorem Zpc : ∀ {w : List Int}, okW w → rep9 w.length ≤ val w ∧ val w ≤ 9 * rep9 w.length := by
 intro w
 induction w using Zcz with
 | h0 => intro _; simp [Zhs, rep9]
 | h1 w c ih =>
  intro h
  obtain ⟨h1, h2⟩ := Zew.1 h
  have := ih h1
  rw [Zch]; simp only [List.length_append, List.length_singleton, rep9]
  omega
theorem Zqw : ∀ {m n : Nat}, m ≤ n → rep9 m ≤ rep9 n := by
 intro m n h
 induction n with
 | zero => rw [show m = 0 by omega]; exact Nat.le_refl _
 | succ n ih =>
  rcases Nat.eq_or_lt_of_le h with e | e
  ·rw [e]; exact Nat.le_refl _
  have := ih (by omega); simp only [rep9]; omega
theorem Zoa {u v : List Int} (hu : okW u) (hv : okW v) (h : val u ≤ val v) : u.length ≤ v.length := by
 rcases Nat.lt_or_ge v.length u.length with q | q
 ·have h1 := Zpc hu
  have h2 := Zpc hv
  have h3 := Zqw (show v.length + 1 ≤ u.length from q)
  simp only [rep9] at h3
  omega
 exact q
def Zei (f : List Int → Bool) (r : List Int × Bool) : Prop :=
 (r.2 = true ∧ okW r.1 ∧ f r.1 = true ∧ ∀ v, okW v → val v < val r.1 → f v = false) ∨ (r = ([], false) ∧ ∀ v, okW v → f v = false)
theorem Zqh {f : List Int → Bool} {r s : List Int × Bool} (h : Zei f r) (g : Zei f s) : r = s := by
 rcases h with ⟨h1, h2, h3, h4⟩ | ⟨h1, h2⟩ <;> rcases g with ⟨g1, g2, g3, g4⟩ | ⟨g1, g2⟩
 ·refine Prod.ext (Zuv h2 g2 ?_) (by rw [h1, g1])
  rcases Nat.lt_trichotomy (val r.1) (val s.1) with q | q | q
  ·have := g4 _ h2 q; rw [h3] at this; cases this
  ·exact q
  have := h4 _ g2 q; rw [g3] at this; cases this
 ·have := g2 _ h2; rw [h3] at this; cases this
 ·have := h2 _ g2; rw [g3] at this; cases this
 rw [h1, g1]
noncomputable def lwF (f : List Int → Bool) : List Int × Bool := by
 classical exact if h : ∃ r, Zei f r then h.choose else ([], false)
theorem Zwb {f : List Int → Bool} {r : List Int × Bool} (h : Zei f r) : r = lwF f := by
 unfold lwF
 rw [dif_pos ⟨r, h⟩]
 exact Zqh h (Exists.choose_spec (⟨r, h⟩ : ∃ r, Zei f r))
section
variable {T : Type} [DecidableEq T] {nx : T → Nat → T} {t0 : T} {ts : T → Bool}
def runT (nx : T → Nat → T) (t0 : T) (w : List Int) : T := w.foldl (fun t c => nx t c.toNat) t0
omit [DecidableEq T] in
theorem Zca (w : List Int) (c : Int) : runT nx t0 (w ++ [c]) = nx (runT nx t0 w) c.toNat := by simp [runT]
def Srt (E : List (T × List Int)) : Prop := E.Pairwise fun x y => val x.2 < val y.2
omit [DecidableEq T] in
theorem Srt.lt {E : List (T × List Int)} (h : Srt E) {i j : Nat} {x y : T × List Int} (hi : E[i]? = some x) (hj : E[j]? = some y) (hv : val x.2 < val y.2) : i < j := by
 obtain ⟨hi1, hi2⟩ := List.getElem?_eq_some_iff.1 hi
 obtain ⟨hj1, hj2⟩ := List.getElem?_eq_some_iff.1 hj
 rcases Nat.lt_trichotomy i j with q | q | q
 ·exact q
 ·subst q; rw [hi2] at hj2; rw [hj2] at hv; omega
 have := List.pairwise_iff_getElem.1 h j i hj1 hi1 q
 rw [hi2, hj2] at this; omega
structure BXI (nx : T → Nat → T) (t0 : T) (e : T × List Int) (m : Nat) (E : List (T × List Int)) : Prop where
 ok : ∀ x ∈ E, okW x.2 ∧ runT nx t0 x.2 = x.1
 srt : Srt E
 top : ∀ x ∈ E, val x.2 ≤ 9 * val e.2 + m
 all : ∀ c, c < m → ∃ y ∈ E, y.1 = nx e.1 c ∧ val y.2 ≤ 9 * val e.2 + c + 1
theorem Zrj {e : T × List Int} {m : Nat} {E : List (T × List Int)} (hm : m < 9) (he : okW e.2 ∧ runT nx t0 e.2 = e.1) (h : BXI nx t0 e m (bx nx e E m)) : BXI nx t0 e (m + 1) (bx nx e E (m + 1)) := by
 unfold bx
 split
 ·rename_i hmem
  obtain ⟨y, hy, hy2⟩ := List.mem_map.1 hmem
  refine ⟨h.ok, h.srt, fun x hx => by have := h.top x hx; omega, fun c hc => ?_⟩
  rcases Nat.lt_or_ge c m with q | q
  ·exact h.all c q
  rw [show c = m by omega]; exact ⟨y, hy, hy2, by have := h.top y hy; omega⟩
 have hv : val (e.2 ++ [(m : Int)]) = 9 * val e.2 + m + 1 := by rw [Zch]; simp
 refine ⟨fun x hx => ?_, ?_, fun x hx => ?_, fun c hc => ?_⟩
 ·rcases List.mem_append.1 hx with hx | hx
  ·exact h.ok x hx
  rw [List.mem_singleton.1 hx]
  exact ⟨Zew.2 ⟨he.1, by omega⟩, by rw [Zca, he.2]; simp⟩
 ·refine List.pairwise_append.2 ⟨h.srt, by simp, fun x hx y hy => ?_⟩
  rw [List.mem_singleton.1 hy]
  have := h.top x hx
  simp only [hv]; omega
 ·rcases List.mem_append.1 hx with hx | hx
  ·have := h.top x hx; omega
  rw [List.mem_singleton.1 hx]; simp only [hv]; omega
 rcases Nat.lt_or_ge c m with q | q
 ·obtain ⟨y, hy, h2⟩ := h.all c q
  exact ⟨y, List.mem_append_left _ hy, h2⟩
 rw [show c = m by omega]; exact ⟨(nx e.1 m, e.2 ++ [(m : Int)]), List.mem_append_right _ (List.mem_singleton.2 rfl), rfl, by simp only [hv]; omega⟩
theorem Zpo {e : T × List Int} {E : List (T × List Int)} (he : okW e.2 ∧ runT nx t0 e.2 = e.1) (h : BXI nx t0 e 0 E) : ∀ m, m ≤ 9 → BXI nx t0 e m (bx nx e E m)
 | 0, _ => h
 | m + 1, hm => Zrj (by omega) he (Zpo he h m (by omega))
structure BEI (nx : T → Nat → T) (t0 : T) (k : Nat) (E : List (T × List Int)) : Prop where
 ok : ∀ x ∈ E, okW x.2 ∧ runT nx t0 x.2 = x.1
 srt : Srt E
 fst : E[0]? = some (t0, [])
 top : ∀ x ∈ E, x.2 = [] ∨ ∃ j y, j < k ∧ E[j]? = some y ∧ val x.2 ≤ 9 * val y.2 + 9
 all : ∀ j x, j < k → E[j]? = some x → ∀ c, c < 9 → ∃ y ∈ E, y.1 = nx x.1 c ∧ val y.2 ≤ 9 * val x.2 + c + 1
theorem bei : ∀ k, BEI nx t0 k (bE nx t0 k)
 | 0 => ⟨fun x hx => by rw [show bE nx t0 0 = [(t0, [])] from rfl, List.mem_singleton] at hx; rw [hx]; exact ⟨Zmb, rfl⟩, by simp [Srt, bE], rfl,
  fun x hx => by rw [show bE nx t0 0 = [(t0, [])] from rfl, List.mem_singleton] at hx; rw [hx]; exact .inl rfl, fun j _ hj => absurd hj (by omega)⟩
 | k + 1 => by
  have ih := bei k
  rcases hq : (bE nx t0 k)[k]? with _ | e
  ·rw [Zfs (List.getElem?_eq_none_iff.1 hq)]
   have hl := List.getElem?_eq_none_iff.1 hq
   exact ⟨ih.ok, ih.srt, ih.fst, fun x hx => by
    rcases ih.top x hx with h | ⟨j, y, h1, h2⟩
    ·exact .inl h
    ·exact .inr ⟨j, y, by omega, h2⟩, fun j x hj hx c hc => by
    have := (List.getElem?_eq_some_iff.1 hx).1
    exact ih.all j x (by omega) hx c hc⟩
  rw [Zah hq]
  have he := ih.ok e (Yv hq)
  have h0 : BXI nx t0 e 0 (bE nx t0 k) := ⟨ih.ok, ih.srt, fun x hx => by
   rcases ih.top x hx with h | ⟨j, y, h1, h2, h3⟩
   ·rw [h, Zhs]; omega
   have hlt : val y.2 < val e.2 := by
    obtain ⟨a1, a2⟩ := List.getElem?_eq_some_iff.1 h2
    obtain ⟨b1, b2⟩ := List.getElem?_eq_some_iff.1 hq
    have := List.pairwise_iff_getElem.1 ih.srt j k a1 b1 h1
    rw [a2, b2] at this; exact this
   omega, fun c hc => absurd hc (by omega)⟩
  have h9 := Zpo he h0 9 (Nat.le_refl _)
  refine ⟨h9.ok, h9.srt, Zby ih.fst, fun x hx => ?_, fun j x hj hx c hc => ?_⟩
  ·exact .inr ⟨k, e, by omega, Zby hq, h9.top x hx⟩
  rcases Nat.lt_or_ge j k with q | q
  ·have hx' : (bE nx t0 k)[j]? = some x := by
    have hl := (List.getElem?_eq_some_iff.1 hq).1
    rcases hz : (bE nx t0 k)[j]? with _ | z
    ·have := List.getElem?_eq_none_iff.1 hz; omega
    have := Zby (nx := nx) (e := e) (k := 9) hz
    rw [this] at hx; exact hx
   obtain ⟨y, hy, h2⟩ := ih.all j x q hx' c hc
   obtain ⟨D, hD⟩ := Zmp (nx := nx) e (bE nx t0 k) 9
   exact ⟨y, by rw [hD]; exact List.mem_append_left _ hy, h2⟩
  have hjk : j = k := by omega
  subst hjk
  have := Zby (nx := nx) (e := e) (k := 9) hq
  rw [this] at hx; injection hx with hx; subst hx
  exact h9.all c hc
theorem Zve {k : Nat} {lim : Nat} (hl : ∀ i y, (bE nx t0 k)[i]? = some y → val y.2 < lim → i < k) (h0 : 0 < lim → 0 < k) : ∀ v, okW v → val v < lim → ∃ j x, j < k ∧ (bE nx t0 k)[j]? = some x ∧ x.1 = runT nx t0 v ∧ val x.2 ≤ val v := by
 intro v
 have B := bei (nx := nx) (t0 := t0) k
 induction v using Zcz with
 | h0 => intro _ hv; exact ⟨0, _, h0 (by omega), B.fst, rfl, Nat.le_refl _⟩
 | h1 u c ih =>
  intro hok hv
  obtain ⟨hu, hc⟩ := Zew.1 hok
  rw [Zch] at hv
  obtain ⟨j, x, h1, h2, h3, h4⟩ := ih hu (by omega)
  obtain ⟨y, hy, g1, g2⟩ := B.all j x h1 h2 c.toNat (by omega)
  obtain ⟨i, hi1, hi2⟩ := List.getElem_of_mem hy
  have hi : (bE nx t0 k)[i]? = some y := List.getElem?_eq_some_iff.2 ⟨hi1, hi2⟩
  refine ⟨i, y, hl i y hi (by omega), hi, by rw [g1, h3, Zca], by rw [Zch]; omega⟩
theorem Zfu {r : List Int × Bool} (h : BRes nx t0 ts r) : Zei (fun v => ts (runT nx t0 v)) r := by
 rcases h with ⟨h1, k, e, h2, h3, h4, h5⟩ | ⟨h1, k, h2, h3⟩
 ·have B := bei (nx := nx) (t0 := t0) k
  have he := B.ok e (Yv h2)
  refine .inl ⟨h1, by rw [h4]; exact he.1, by simp only [h4, he.2, h3], fun v hv hlt => ?_⟩
  rw [h4] at hlt
  obtain ⟨j, x, g1, g2, g3, _⟩ := Zve (lim := val e.2) (fun i y hi hy => B.srt.lt hi h2 hy) (fun hp => by
   rcases Nat.eq_zero_or_pos k with q | q
   ·subst q; rw [B.fst] at h2; injection h2 with h2; subst h2; rw [Zhs] at hp; omega
   exact q) v hv hlt
  have hx : (bE nx t0 j)[j]? = some x := by
   rcases hz : (bE nx t0 j)[j]? with _ | z
   ·have hs := Znp (List.getElem?_eq_none_iff.1 hz) (Nat.le_of_lt g1)
    rw [hs, hz] at g2; cases g2
   have := Zsy hz (Nat.le_of_lt g1); rw [this] at g2; exact g2
  simp only [← g3]
  exact h5 j x g1 hx
 refine .inr ⟨h1, fun v hv => ?_⟩
 obtain ⟨j, x, g1, g2, g3, _⟩ := Zve (nx := nx) (t0 := t0) (k := k) (lim := val v + 1) (fun i y hi _ => by have := (List.getElem?_eq_some_iff.1 hi).1; omega) (fun _ => by
  rcases Nat.eq_zero_or_pos k with q | q
  ·subst q; simp [bE] at h2
  exact q) v hv (by omega)
 have hx : (bE nx t0 j)[j]? = some x := by
  rcases hz : (bE nx t0 j)[j]? with _ | z
  ·have hs := Znp (List.getElem?_eq_none_iff.1 hz) (Nat.le_of_lt g1)
   rw [hs, hz] at g2; cases g2
  have := Zsy hz (Nat.le_of_lt g1); rw [this] at g2; exact g2
 simp only [← g3]
 exact h3 j x g1 hx
theorem Zpl {r : List Int × Bool} (h : BRes nx t0 ts r) : r = lwF (fun v => ts (runT nx t0 v)) := Zwb (Zfu h)
end
theorem Zjz : ∀ (n : Nat) (l : List Nat), l.Nodup → (∀ x ∈ l, x < n) → l.length ≤ n
 | 0, l, _, h => by
  cases l with
  | nil => exact Nat.le_refl _
  | cons a l => exact absurd (h a (by simp)) (by omega)
 | n + 1, l, hd, h => by
  by_cases hm : n ∈ l
  ·have h1 := Zjz n (l.erase n) (hd.erase n) (fun x hx => by
    have h2 := h x (List.mem_of_mem_erase hx)
    have h3 := ((List.Nodup.mem_erase_iff hd).1 hx).1
    omega)
   rw [List.length_erase_of_mem hm] at h1
   omega
  have h1 := Zjz n l hd (fun x hx => by
   have h2 := h x hx
   rcases Nat.eq_or_lt_of_le (Nat.le_of_lt_succ h2) with q | q
   ·exact absurd (q ▸ hx) hm
   exact q)
  omega
theorem Zic {T : Type} (g : T → Nat) (n : Nat) {l : List T} (hd : l.Nodup) (hi : ∀ x ∈ l, ∀ y ∈ l, g x = g y → x = y) (h : ∀ x ∈ l, g x < n) : l.length ≤ n := by
 have h1 : (l.map g).Nodup := by
  induction l with
  | nil => exact List.nodup_nil
  | cons a l ih =>
   rw [List.nodup_cons] at hd
   rw [List.map_cons, List.nodup_cons]
   refine ⟨fun hm => ?_, ih hd.2 (fun x hx y hy => hi x (List.mem_cons_of_mem _ hx) y (List.mem_cons_of_mem _ hy)) (fun x hx => h x (List.mem_cons_of_mem _ hx))⟩
   obtain ⟨b, hb, hb2⟩ := List.mem_map.1 hm
   exact hd.1 (hi b (List.mem_cons_of_mem _ hb) a (by simp) hb2 ▸ hb)
 have := Zjz n (l.map g) h1 (fun x hx => by obtain ⟨y, hy, rfl⟩ := List.mem_map.1 hx; exact h y hy)
 simpa using this
end Go.KLib

namespace Go.KLib
section
variable {α : Type} [DecidableEq α]
end
end Go.KLib

namespace Go.KLib
open Go.Sort Go.RowKit Go.Shelf Go.Proofs
instance : Inhabited Pair := ⟨⟨0, 0⟩⟩
section
variable {α : Type} [Inhabited α] {cs : α → List Value} {k : Nat} {w : World} {e : TypeId} {g off cap n : Nat} {xs ys : List α}
end
instance (x y : Pair) : Decidable (Zuy x y) := by unfold Zuy; exact inferInstance
section
variable {P : Program} {ρ : Ren} {w : World} {e : TypeId} {v : Value} {a : List Pair}
end
end Go.KLib

namespace Go.KLib
open Go.Sort
section
variable {P : Program} {w : World} {l : KL} {dst : Option Tmp} {ty : TypeId} {pos : String} {aft : Array Go.Edge} {gd : Option (Nat × Bool)} {K : Value → World → Prop}
variable {α : Type} {cs : α → List Value} {e k : Nat} {v : Value} {xs : List α}
end
theorem Znz {β : Type} {l : List β} {k : Nat} {p y : β} (h : p ∉ l.take k) (hy : l[k]? = some y) (hn : ¬ y = p) : p ∉ l.take (k + 1) := by
 rw [Zaw hy]
 intro q
 rcases List.mem_append.1 q with q | q
 ·exact h q
 exact hn (List.mem_singleton.1 q).symm
theorem Zle {β : Type} {l : List β} {k : Nat} {p : β} (h : p ∉ l.take k) (hk : l.length ≤ k) : p ∉ l := by rwa [List.take_of_length_le hk] at h
section
variable {α : Type} [DecidableEq α]
end
end Go.KLib

