/- The library of this proof: a logic of the code's forms, memory, data, and plain laws. It speaks of no program. -/
import Derived.WalkKit
import Derived.OrdersHeld
import Derived.WalkLawsBesides
import Derived.WalkSpells
import Derived.ProofKit
import Derived.Deep.Slices
import Derived.Deep.Fields
import Derived.Lib.SmallJoins
import Derived.Laws.Append
import Derived.Laws.CopyRow
import Derived.Laws.AppendOwn
import Derived.Laws.Small
import Derived.Shelf.Sort.Plain
import Derived.Shelf.Slices.CompactI
import Derived.Shelf.Slices.Delete
import Derived.Ground.NamesProg
import Derived.Ground.Names2Prog
import Derived.Shelf.Lay
import Derived.Shelf.Slices.In.SortNone
import Derived.MapKept
import Derived.Ground.SlsfProg
import Derived.Shelf.SlSortCmp.NoneTotal
import Derived.Laws.BytesString
import Derived.Laws.Strings2
import Derived.Laws.Concat

namespace Go.KLib
theorem Yi {p : Prop} {_ : Decidable p} (h : decide p = true) : p := of_decide_eq_true h
theorem Yj {p : Prop} {_ : Decidable p} (h : decide p = false) : ¬ p := of_decide_eq_false h
theorem Qu {b : Bool} (h : (!b) = true) : b = false := by cases b <;> simp_all
theorem Qv {b : Bool} (h : (!b) = false) : b = true := by cases b <;> simp_all
theorem bt_e {b c : Bool} (h : (b == c) = true) : b = c := by simpa using h
theorem bf_e {b c : Bool} (h : (b == c) = false) : ¬ b = c := by simpa using h
abbrev KL := List (Nat × Value)
def look : KL → Nat → Option Value
 | [], _ => none
 | p :: l, t => bif Nat.beq p.1 t then some p.2 else look l t
def ev (l : KL) : Operand → Option Value
 | .tmp t => look l t
 | .const v => some v
 | .global g => some (.pointer (some ⟨g, 0, none⟩))
 | .func f => some (.func (.func f) #[] #[])
structure Kn (N : Nat) (a : Act) (l : KL) : Prop where
 defers : a.defers = []
 size : a.tmps.size = N
 slot : ∀ t v, look l t = some v → a.tmps.getD t undef = v
theorem Kn.eval {N : Nat} {a : Act} {l : KL} (h : Kn N a l) {x : Operand} {v : Value} (hx : ev l x = some v) : a.eval x = v := by
 cases x with
 | tmp t => exact h.slot t v hx
 | const u => simpa [ev, Act.eval] using hx
 | global g => simpa [ev, Act.eval] using hx
 | func f => simpa [ev, Act.eval] using hx
theorem Kn.put {N : Nat} {a : Act} {l : KL} (h : Kn N a l) {d : Nat} (hd : d < N) (v : Value) : Kn N (a.put (some d) v) ((d, v) :: l) := by
 refine ⟨h.defers, by simp [Act.put, h.size], fun t u hu => ?_⟩
 have hdl : d < a.tmps.size := h.size ▸ hd
 simp only [look] at hu
 by_cases e : d = t
 ·subst e
  simp at hu
  subst hu
  simp [Act.put, Array.getD_eq_getD_getElem?, hdl]
 have e' : Nat.beq d t = false := Bool.eq_false_iff.2 (fun h => e (Nat.eq_of_beq_eq_true h))
 rw [e'] at hu
 have := h.slot t u hu
 simp only [Act.put, Array.getD_eq_getD_getElem?] at this ⊢
 rw [Array.getElem?_setIfInBounds_ne e]
 exact this
def pu (l : KL) (d : Option Tmp) (v : Value) : KL :=
 match d with
 | some d => (d, v) :: l
 | none => l
def dOk (N : Nat) (d : Option Tmp) : Bool :=
 match d with
 | some d => Nat.blt d N
 | none => true
theorem Kn.pu {N : Nat} {a : Act} {l : KL} (h : Kn N a l) {d : Option Tmp} (hd : dOk N d = true) (v : Value) : Kn N (a.put d v) (pu l d v) := by
 cases d with
 | none => exact h
 | some d => exact h.put (by simpa [dOk, Nat.blt_eq] using hd) v
def Sub (l l' : KL) : Prop := ∀ t v, look l t = some v → look l' t = some v
theorem Sub.refl (l : KL) : Sub l l := fun _ _ h => h
theorem Sub.nil (l : KL) : Sub [] l := fun _ _ h => by simp [look] at h
theorem Sub.cons {l l' : KL} {t : Nat} {v : Value} (h : look l' t = some v) (hs : Sub l l') : Sub ((t, v) :: l) l' := by
 intro u x hx
 simp only [look] at hx
 by_cases e : t = u
 ·subst e
  simp at hx
  subst hx
  exact h
 have e' : Nat.beq t u = false := Bool.eq_false_iff.2 (fun h => e (Nat.eq_of_beq_eq_true h))
 rw [e'] at hx
 exact hs u x hx
theorem Kn.sub {N : Nat} {a : Act} {l l' : KL} (h : Kn N a l') (hs : Sub l l') : Kn N a l := ⟨h.defers, h.size, fun t v hv => h.slot t v (hs t v hv)⟩
abbrev Po := Exit → KL → World → Prop
def up (N : Nat) (Q : Po) : Exit → Act → World → Prop
 | .panic _, _, _ => False
 | .outgrown, _, _ => False
 | e, a, w => ∃ l, Kn N a l ∧ Q e l w
def W (P : Program) (N : Nat) (c : Code) (Q : Po) (l : KL) (w : World) : Prop := ∀ a, Kn N a l → Code.wp P c (up N Q) a w
def thn (K : KL → World → Prop) (Q : Po) : Po
 | .normal, l, w => K l w
 | e, l, w => Q e l w
def inB (id : Nat) (Q : Po) : Po
 | .exit i, l, w => bif Nat.beq i id then Q .normal l w else Q (.exit i) l w
 | e, l, w => Q e l w
section rules
variable {P : Program} {N : Nat} {Q : Po} {l : KL} {w : World}
theorem Znx {c : Code} {l' : KL} (hs : Sub l l') (h : W P N c Q l w) : W P N c Q l' w := fun a ha => h a (ha.sub hs)
theorem Zg {x y : Code} (h : ∀ K : KL → World → Prop, (∀ l w, W P N y Q l w → K l w) → W P N x (thn K Q) l w) : W P N (.seq x y) Q l w := by
 intro a ha
 refine wp_seq (wp_mono (h (W P N y Q) (fun _ _ h => h) a ha) fun e a' w' he => ?_)
 cases e <;> simp only [up, thn, Exit.then] at he ⊢ <;> first | exact he | (obtain ⟨l', hl, hw⟩ := he; exact hw a' hl)
theorem Zu (h : Q .normal l w) : W P N .skip Q l w := fun _ ha => wp_skip ⟨l, ha, h⟩
theorem Zq (h : Q .ret l w) : W P N .ret Q l w := fun _ ha => wp_ret ⟨l, ha, h⟩
theorem Xe {id : Nat} (h : Q (.exit id) l w) : W P N (.exit id) Q l w := fun _ ha => wp_exit ⟨l, ha, h⟩
theorem Zx {id : Nat} {c : Code} (h : W P N c (inB id Q) l w) : W P N (.block id c) Q l w := by
 intro a ha
 refine wp_block (wp_mono (h a ha) fun e a' w' he => ?_)
 cases e with
 | exit i =>
  obtain ⟨l', hl, hq⟩ := he
  simp only [Exit.inBlock]
  by_cases hi : i = id
  ·subst hi
   simp [inB] at hq
   simpa using ⟨l', hl, hq⟩
  have hi' : Nat.beq i id = false := Bool.eq_false_iff.2 (fun h => hi (Nat.eq_of_beq_eq_true h))
  simp only [inB, hi', cond_false] at hq
  rw [if_neg hi]
  exact ⟨l', hl, hq⟩
 | normal => exact he
 | goto n => exact he
 | ret => exact he
 | panic c => exact he
 | outgrown => exact he
theorem Zp {c : Operand} {x y : Code} {b : Bool} (hc : ev l c = some (.bool b)) (ht : b = true → W P N x Q l w) (hf : b = false → W P N y Q l w) :
 W P N (.cond c x y) Q l w := fun a ha => wp_cond_split (ha.eval hc) (fun h => ht h a ha) (fun h => hf h a ha)
theorem Qf {c : Operand} {x y : Code} (hc : ev l c = some (.bool true)) (ht : W P N x Q l w) : W P N (.cond c x y) Q l w := fun a ha => wp_cond_true (ha.eval hc) (ht a ha)
theorem Zap {c : Operand} {x y : Code} (hc : ev l c = some (.bool false)) (hf : W P N y Q l w) : W P N (.cond c x y) Q l w := fun a ha => wp_cond_false (ha.eval hc) (hf a ha)
theorem Xi {c : Code} {σ : Type} (L : σ → KL) (I : σ → World → Prop) (μ : σ → Nat) (s0 : σ) (hL : Sub (L s0) l) (h0 : I s0 w)
    (round : ∀ s w, I s w → W P N c (thn (fun l' w' => ∃ s', I s' w' ∧ Sub (L s') l' ∧ μ s' < μ s) Q) (L s) w) : W P N (.loop c) Q l w := by
  intro a ha b k cs
  have key : ∀ n s a w, μ s = n → I s w → Kn N a (L s) →
      ∃ e a' w', up N Q e a' w' ∧ Arrives P (lone (b.at a (.code c :: .inLoop c :: k)) cs w) b k cs e a' w' := by
    intro n
    induction n using Nat.strongRecOn with
    | _ n ih =>
      intro s a w hn hI hK
      obtain ⟨e, a₁, w₁, hq, harr⟩ := round s w hI a hK b (.inLoop c :: k) cs
      cases e with
      | normal =>
        obtain ⟨l₁, hl₁, s', hI', hs', hlt⟩ := hq
        obtain ⟨e₂, a₂, w₂, hq₂, harr₂⟩ := ih (μ s') (hn ▸ hlt) s' a₁ w₁ rfl hI' (hl₁.sub hs')
        exact ⟨e₂, a₂, w₂, hq₂, .of_steps (Steps.trans harr (.one step_inLoop)) harr₂⟩
      | exit id => exact ⟨.exit id, a₁, w₁, hq, .pass (x := .inLoop c) rfl (fun _ _ => .inl (by simp)) harr⟩
      | goto n => exact ⟨.goto n, a₁, w₁, hq, .pass (x := .inLoop c) rfl (fun _ _ => .inl (by simp)) harr⟩
      | ret => exact ⟨.ret, a₁, w₁, hq, .pass (x := .inLoop c) rfl (fun _ _ => .inl (by simp)) harr⟩
      | panic ch => exact hq.elim
      | outgrown => exact hq.elim
  obtain ⟨e, a', w', hq, harr⟩ := key _ s0 a w rfl h0 (ha.sub hL)
  exact ⟨e, a', w', hq, .of_steps (.one step_loop) harr⟩
def Qd (P : Program) (l : KL) (o : Oper) (w : World) (v : Value) (w' : World) : Prop :=
 ∀ ρ : Operand → Value, (∀ x u, ev l x = some u → ρ x = u) → (execOp ρ o).run P w = .ok (.value v) w'
def Zqy (P : Program) (l : KL) (o : Oper) (w : World) (w' : World) : Prop :=
 ∀ ρ : Operand → Value, (∀ x u, ev l x = some u → ρ x = u) → (execOp ρ o).run P w = .ok .skip w'
def Ztn (P : Program) (l : KL) (o : Oper) (w : World) (f : FuncId) (args : Array Value) : Prop :=
 ∀ ρ : Operand → Value, (∀ x u, ev l x = some u → ρ x = u) → (execOp ρ o).run P w = .ok (.enter f args) w
def yl (ops : Array Oper) (l : KL) (j : Nat) : Option (Option Bool) :=
 match (ops[j]?).bind (·.dst) with
 | none => some none
 | some d => match look l d with
  | some (.bool b) => some (some b)
  | some (.tuple _) => some none
  | _ => none
def Zgm (ops : Array Oper) (l : KL) (o : Oper) : Option Bool :=
 match o.guard with
 | none => some true
 | some (j, want) => match yl ops l j with
  | some (some b) => some (b == want)
  | some none => some false
  | none => none
theorem Zcc {ops : Array Oper} {a : Act} {o : Oper} {b : Bool} (ha : Kn N a l) (h : Zgm ops l o = some b) : Region.wanted o (yielded ops a.tmps) = b := by
 unfold Zgm at h
 unfold Region.wanted
 cases hg : o.guard with
 | none => simp [hg] at h; simp [h]
 | some g =>
  obtain ⟨j, want⟩ := g
  simp only [hg] at h ⊢
  have key : ∀ r, yl ops l j = some r → yielded ops a.tmps j = r := by
   intro r hr
   unfold yl at hr
   unfold yielded
   cases hd : (ops[j]?).bind (·.dst) with
   | none => simp [hd] at hr; simp [← hr]
   | some d =>
    simp only [hd] at hr
    cases hl : look l d with
    | none => simp [hl] at hr
    | some v =>
     have hv := ha.slot d v hl
     rw [Array.getD_eq_getD_getElem?] at hv
     simp only [hl] at hr
     cases hs : a.tmps[d]? with
     | none =>
      rw [hs] at hv
      simp [undef] at hv
      subst hv
      simp at hr
      simp [hs, ← hr]
     | some u =>
      rw [hs] at hv
      simp at hv
      subst hv
      cases u <;> simp at hr <;> simp [hs, ← hr]
  cases hy : yl ops l j with
  | none => simp [hy] at h
  | some r =>
   rw [key r hy]
   cases r with
   | none => simp [hy] at h; simp [← h]
   | some c => simp [hy] at h; simp [← h]
def WL (P : Program) (N : Nat) (ops : Array Oper) (Q : Po) (rest : List Oper) (l : KL) (w : World) : Prop := ∀ a, Kn N a l → wpList P ops (up N Q) rest a w
variable {ops : Array Oper} {rest : List Oper} {o : Oper}
theorem Zc {id : Nat} {os : List Oper} (h : WL P N os.toArray Q os l w) : W P N (.region id os.toArray false) Q l w := fun a ha => wp_region_lit (h a ha)
theorem Ze (h : Q .normal l w) : WL P N ops Q [] l w := fun _ ha => wpList_nil ⟨l, ha, h⟩
theorem Zsw {l' : KL} (hs : Sub l l') (h : WL P N ops Q rest l w) : WL P N ops Q rest l' w := fun a ha => h a (ha.sub hs)
theorem Za (hd : dOk N o.dst = true) (hg : Zgm ops l o = some true) {v : Value} {w' : World} (hr : Qd P l o w v w') (h : WL P N ops Q rest (pu l o.dst v) w') : WL P N ops Q (o :: rest) l w := by
 intro a ha
 refine wpList_step fun K hK => ?_
 rw [if_pos (Zcc ha hg)]
 unfold Oper.wp
 rw [hr a.eval (fun x u hx => ha.eval hx)]
 exact hK _ _ (h _ (ha.pu hd v))
theorem Zj (hd : dOk N o.dst = true) (hg : Zgm ops l o = some false) (h : WL P N ops Q rest (pu l o.dst undef) w) : WL P N ops Q (o :: rest) l w := by
 intro a ha
 refine wpList_step fun K hK => ?_
 rw [if_neg (by rw [Zcc ha hg]; simp)]
 exact hK _ _ (h _ (ha.pu hd undef))
def Ctr (P : Program) (f : FuncId) (args : Array Value) (w : World) (R : Value → World → Prop) : Prop :=
 Calls P f args w fun e w' => ∃ v, e = .returned v ∧ R v w'
theorem Ctr.mono {f : FuncId} {args : Array Value} {R R' : Value → World → Prop} (h : Ctr P f args w R) (hr : ∀ v w', R v w' → R' v w') : Ctr P f args w R' :=
 Calls.mono h fun _ _ ⟨v, he, hv⟩ => ⟨v, he, hr _ _ hv⟩
theorem Yp {d : Nat} {b : Bool} (hd : look l d = some (.bool b)) (ht : b = true → WL P N ops Q rest ((d, .bool true) :: l) w) (hf : b = false → WL P N ops Q rest ((d, .bool false) :: l) w) : WL P N ops Q rest l w := by
 cases b
 ·exact Zsw (Sub.cons hd (Sub.refl l)) (hf rfl)
 exact Zsw (Sub.cons hd (Sub.refl l)) (ht rfl)
def DR (P : Program) (N : Nat) (ops : Array Oper) (Q : Po) (S : World → Prop) (fuel : Nat) (listed : Array Bool) (l : KL) (w : World) : Prop :=
 ∀ a, Kn N a l → S w → wpAnyH P .any ops (up N Q) S fuel listed a w
theorem Zti {S : World → Prop} {fuel : Nat} {listed : Array Bool} {l' : KL} (hs : Sub l l') (h : DR P N ops Q S fuel listed l w) : DR P N ops Q S fuel listed l' w := fun a ha => h a (ha.sub hs)
theorem Zwa {id : Nat} (S : World → Prop) (hm : P.follows .mixedOrders = true) (hS : S { w with drawn := w.drawn + 1 })
   (h : DR P N ops Q S ops.size (Array.replicate ops.size false) l { w with drawn := w.drawn + 1 }) : W P N (.region id ops true) Q l w :=
 fun a ha => wp_region_held (S := S) hm (h a ha hS)
def Zgg (ops : Array Oper) (listed : Array Bool) (i : Nat) : Bool := Region.noSelect ops && Region.free .any ops listed i && (Region.ready .any ops listed).contains i
theorem Zup {S : World → Prop} {fuel : Nat} {listed : Array Bool} (i : Nat) (hi : ops[i]? = some o) (hk : Zgg ops listed i = true) (hd : dOk N o.dst = true) (hg : Zgm ops l o = some true) {v : Value}
   (hr : ∀ w, S w → Qd P l o w v w) (h : DR P N ops Q S fuel (listed.setIfInBounds i true) (pu l o.dst v) w) : DR P N ops Q S (fuel + 1) listed l w := by
 intro a ha hS
 simp only [Zgg, Bool.and_eq_true] at hk
 refine wpAnyH_take hi hk.1.1 hk.1.2 hk.2 (fun c a w hq => hq) (v := v) (.inl ⟨Zcc ha hg, fun w hw => hr w hw a.eval (fun x u hx => ha.eval hx)⟩) hS ?_
 exact h _ (ha.pu hd v) hS
theorem Ztz {S : World → Prop} {fuel : Nat} {listed : Array Bool} (i : Nat) (hi : ops[i]? = some o) (hk : Zgg ops listed i = true) (hd : dOk N o.dst = true) (hg : Zgm ops l o = some false)
   (h : DR P N ops Q S fuel (listed.setIfInBounds i true) (pu l o.dst undef) w) : DR P N ops Q S (fuel + 1) listed l w := by
 intro a ha hS
 simp only [Zgg, Bool.and_eq_true] at hk
 refine wpAnyH_take hi hk.1.1 hk.1.2 hk.2 (fun c a w hq => hq) (v := undef) (.inr ⟨Zcc ha hg, rfl⟩) hS ?_
 exact h _ (ha.pu hd undef) hS
theorem Zoq {S : World → Prop} {fuel : Nat} {listed : Array Bool} {rs : List Nat} (hr : Region.ready .any ops listed = rs) (hne : rs ≠ [])
   (h : ∀ i ∈ rs, ∀ a, Kn N a l → S w → wpOp P ops (up N Q) i (fun a' w' => S w' ∧ wpAnyH P .any ops (up N Q) S fuel (listed.setIfInBounds i true) a' w') a w) : DR P N ops Q S (fuel + 1) listed l w :=
 fun a ha hS => wpAnyH_all hr hne fun i hi => h i hi a ha hS
def DO (P : Program) (N : Nat) (ops : Array Oper) (Q : Po) (S : World → Prop) (fuel : Nat) (listed : Array Bool) (i : Nat) (l : KL) (w : World) : Prop :=
 ∀ a, Kn N a l → S w → wpOp P ops (up N Q) i (fun a' w' => S w' ∧ wpAnyH P .any ops (up N Q) S fuel (listed.setIfInBounds i true) a' w') a w
theorem Zvs {S : World → Prop} {fuel : Nat} {listed : Array Bool} (i : Nat) (hr : Region.ready .any ops listed = [i]) (h : DO P N ops Q S fuel listed i l w) : DR P N ops Q S (fuel + 1) listed l w :=
 Zoq hr (by simp) (by intro k hk; rw [List.mem_singleton.1 hk]; exact h)
theorem Zat {S : World → Prop} {fuel : Nat} {listed : Array Bool} (i j : Nat) (hr : Region.ready .any ops listed = [i, j]) (h1 : DO P N ops Q S fuel listed i l w) (h2 : DO P N ops Q S fuel listed j l w) : DR P N ops Q S (fuel + 1) listed l w :=
 Zoq hr (by simp) (by intro k hk; rcases List.mem_cons.1 hk with rfl | hk; exact h1; rw [List.mem_singleton.1 hk]; exact h2)
theorem Qn {S : World → Prop} {fuel : Nat} {listed : Array Bool} {d : Nat} {b : Bool} (hd : look l d = some (.bool b)) (ht : b = true → DR P N ops Q S fuel listed ((d, .bool true) :: l) w)
   (hf : b = false → DR P N ops Q S fuel listed ((d, .bool false) :: l) w) : DR P N ops Q S fuel listed l w := by
 cases b
 ·exact Zti (Sub.cons hd (Sub.refl l)) (hf rfl)
 exact Zti (Sub.cons hd (Sub.refl l)) (ht rfl)
theorem Yc {S : World → Prop} {fuel : Nat} {listed : Array Bool} (hr : Region.ready .any ops listed = []) (h : Q .normal l w) : DR P N ops Q S fuel listed l w :=
 fun _ ha _ => wpAnyH_done hr ⟨l, ha, h⟩ fuel
def Zgq (P : Program) (l : KL) (w : World) : List ResultVar → List Value → Prop
 | [], [] => True
 | .tmp t :: rs, v :: vs => look l t = some v ∧ Zgq P l w rs vs
 | .cell t ty :: rs, v :: vs => (∃ a, look l t = some (.pointer (some a)) ∧ (loadVar ty a).run P w = .ok v w) ∧ Zgq P l w rs vs
 | _, _ => False
def Zhi (vs : List Value) : Value := match vs with | [v] => v | vs => .tuple vs.toArray
def resF (a : Act) : ResultVar → Sem Value
 | .tmp t => pure (a.tmps.getD t undef)
 | .cell x t => do loadVar t (← asAddr (a.tmps.getD x undef))
theorem Zog (fn : Func) (a : Act) : results fn a.tmps = (fn.results.mapM (resF a) >>= fun vs => pure (if h : vs.size = 1 then vs[0] else .tuple vs)) := by
 unfold results
 congr 1
theorem Zid {a : Act} (ha : Kn N a l) (fn : Func) {vs : List Value} (h : Zgq P l w fn.results.toList vs) : (results fn a.tmps).run P w = .ok (Zhi vs) w := by
 have key : ∀ (rs : List ResultVar) (vs : List Value), Zgq P l w rs vs → (rs.mapM (resF a)).run P w = .ok vs w := by
  intro rs
  induction rs with
  | nil => intro vs h; cases vs <;> simp [Zgq] at h ⊢
  | cons r rs ih =>
   intro vs h
   cases vs with
   | nil => cases r <;> simp [Zgq] at h
   | cons v vs =>
    have hv : (resF a r).run P w = .ok v w ∧ Zgq P l w rs vs := by
     cases r with
     | tmp t =>
      obtain ⟨h1, h2⟩ := h
      exact ⟨by simp only [resF, ha.slot t v h1]; rfl, h2⟩
     | cell t ty =>
      obtain ⟨⟨p, h1, h3⟩, h2⟩ := h
      refine ⟨?_, h2⟩
      have hA : (asAddr (a.tmps.getD t undef)).run P w = .ok p w := by rw [ha.slot t _ h1]; rfl
      simp only [resF, Sem.run_bind, hA, Result.andThen_ok, h3]
    simp only [List.mapM_cons, Sem.run_bind, Sem.run_pure, Result.andThen_ok, hv.1, ih vs hv.2]
 have h1 := key _ _ h
 have h2 : (fn.results.mapM (resF a)).run P w = .ok vs.toArray w := by
  rw [← Array.toArray_toList (xs := fn.results), List.mapM_toArray]
  simp only [Sem.run_map, h1, Result.andThen_ok]
 rw [Zog, Sem.run_bind, h2]
 show Result.ok _ w = Result.ok _ w
 congr 1
 match vs with
 | [] => simp [Zhi]
 | [v] => simp [Zhi]
 | v :: u :: vs => simp [Zhi]
def retP (P : Program) (rs : List ResultVar) (R : Value → World → Prop) : Po
 | .normal, l, w | .ret, l, w => ∃ vs, Zgq P l w rs vs ∧ R (Zhi vs) w
 | _, _, _ => False
def Zon : Nat → List Value → KL
 | _, [] => []
 | i, v :: vs => (i, v) :: Zon (i + 1) vs
theorem Zof : ∀ (vs : List Value) (i t : Nat) (v : Value), look (Zon i vs) t = some v → i ≤ t ∧ vs[t - i]? = some v := by
 intro vs
 induction vs with
 | nil => intro i t v h; simp [Zon, look] at h
 | cons x vs ih =>
  intro i t v h
  simp only [Zon, look] at h
  by_cases e : i = t
  ·subst e; simp at h; simp [h]
  have e' : Nat.beq i t = false := Bool.eq_false_iff.2 (fun h => e (Nat.eq_of_beq_eq_true h))
  rw [e'] at h
  obtain ⟨h1, h2⟩ := ih (i + 1) t v h
  refine ⟨by omega, ?_⟩
  rw [show t - i = (t - (i + 1)) + 1 from by omega]
  simpa using h2
theorem Ye {f : FuncId} {fn : Func} {c : Code} {vs0 : List Value} {R : Value → World → Prop} (hf : P.funcs[f]? = some fn) (hb : fn.body = some c) (hn : fn.ntmps = N) (hle : Nat.ble vs0.length N = true)
   (h : W P N c (retP P fn.results.toList R) (Zon 0 vs0) w) : Ctr P f vs0.toArray w R := by
 refine calls_of_wp hf hb (wp_mono (h _ ⟨rfl, ?_, fun t v hv => ?_⟩) fun e a w' he => ?_)
 ·have := Nat.le_of_ble_eq_true hle
  simp [hn]; omega
 ·obtain ⟨_, h2⟩ := Zof vs0 0 t v hv
  simp only [Nat.sub_zero] at h2
  rw [Array.getD_eq_getD_getElem?, Array.getElem?_append_left (by have := (List.getElem?_eq_some_iff.1 h2).1; simpa using this)]
  simp [h2]
 cases e with
 | normal =>
  obtain ⟨l', hl, vs, hr, hR⟩ := he
  exact ⟨hl.defers, _, Zid hl fn hr, _, rfl, hR⟩
 | ret =>
  obtain ⟨l', hl, vs, hr, hR⟩ := he
  exact ⟨hl.defers, _, Zid hl fn hr, _, rfl, hR⟩
 | exit id => obtain ⟨_, _, h⟩ := he; exact h.elim
 | goto n => obtain ⟨_, _, h⟩ := he; exact h.elim
 | panic ch => exact he.elim
 | outgrown => exact he.elim
theorem Zo {K : KL → World → Prop} (h : Q .ret l w) : thn K Q .ret l w := h
theorem Yd {id : Nat} (h : Q .ret l w) : inB id Q .ret l w := h
theorem Zr {K : KL → World → Prop} {i : Nat} (h : Q (.exit i) l w) : thn K Q (.exit i) l w := h
theorem Yu {i : Nat} (h : Q .normal l w) : inB i Q (.exit i) l w := by
 show (bif Nat.beq i i then Q .normal l w else Q (.exit i) l w)
 rw [Nat.beq_refl]
 exact h
theorem Zb {K : KL → World → Prop} (h : K l w) : thn K Q .normal l w := h
theorem Zw {id : Nat} (h : Q .normal l w) : inB id Q .normal l w := h
theorem Zi {rs : List ResultVar} {R : Value → World → Prop} (vs : List Value) (hr : Zgq P l w rs vs) (hR : R (Zhi vs) w) : retP P rs R .ret l w := ⟨vs, hr, hR⟩
theorem Zev {rs : List ResultVar} {R : Value → World → Prop} (vs : List Value) (hr : Zgq P l w rs vs) (hR : R (Zhi vs) w) : retP P rs R .normal l w := ⟨vs, hr, hR⟩
def Step (P : Program) (l : KL) (o : Oper) (w : World) (K : Value → World → Prop) : Prop :=
 ∀ (a : Act) (K' : Act → World → Prop) (Q' : Exit → Act → World → Prop), (∀ x u, ev l x = some u → a.eval x = u) → (∀ v w', K v w' → K' (a.put o.dst v) w') → o.wp P a w K' Q'
theorem Step.of {v : Value} {w' : World} {K : Value → World → Prop} (hr : Qd P l o w v w') (h : K v w') : Step P l o w K := by
 intro a K' Q' ha hK
 unfold Oper.wp
 rw [hr a.eval ha]
 exact hK v w' h
theorem Step.ofU {w' : World} {K : Value → World → Prop} (hr : Zqy P l o w w') (h : K undef w') : Step P l o w K := by
 intro a K' Q' ha hK
 unfold Oper.wp
 rw [hr a.eval ha]
 exact hK undef w' h
theorem Step.call {f : FuncId} {args : Array Value} {K R : Value → World → Prop} (hr : Ztn P l o w f args) (hc : Ctr P f args w R) (h : ∀ v w', R v w' → K v w') : Step P l o w K := by
 intro a K' Q' ha hK
 unfold Oper.wp
 rw [hr a.eval ha]
 refine Calls.mono hc fun e w' he => ?_
 obtain ⟨v, rfl, hv⟩ := he
 exact hK v w' (h v w' hv)
theorem Zm (hd : dOk N o.dst = true) (hg : Zgm ops l o = some true) (h : Step P l o w fun v w' => WL P N ops Q rest (pu l o.dst v) w') : WL P N ops Q (o :: rest) l w := by
 intro a ha
 refine wpList_step fun K hK => ?_
 rw [if_pos (Zcc ha hg)]
 exact h a K _ (fun x u hx => ha.eval hx) fun v w' hw => hK _ _ (hw _ (ha.pu hd v))
theorem Zz {S : World → Prop} {fuel : Nat} {listed : Array Bool} {i : Nat} (hi : ops[i]? = some o) (hd : dOk N o.dst = true) (hg : Zgm ops l o = some true)
   (h : Step P l o w fun v w' => S w' ∧ DR P N ops Q S fuel (listed.setIfInBounds i true) (pu l o.dst v) w') : DO P N ops Q S fuel listed i l w := by
 intro a ha _
 unfold wpOp
 simp only [hi]
 rw [if_pos (Zcc ha hg)]
 exact .inl (h a _ _ (fun x u hx => ha.eval hx) fun v w' hw => ⟨hw.1, hw.2 _ (ha.pu hd v) hw.1⟩)
def Tk (P : Program) (S : World → Prop) (l : KL) (o : Oper) (G : Value → Prop) : Prop := ∃ v, (∀ w, S w → Qd P l o w v w) ∧ G v
theorem Tk.of {S : World → Prop} {v : Value} {G : Value → Prop} (h : ∀ w, S w → Qd P l o w v w) (hG : G v) : Tk P S l o G := ⟨v, h, hG⟩
theorem DR_s {S : World → Prop} {fuel : Nat} {listed : Array Bool} (i : Nat) (hi : ops[i]? = some o) (hk : Zgg ops listed i = true) (hd : dOk N o.dst = true) (hg : Zgm ops l o = some true)
   (h : Tk P S l o fun v => DR P N ops Q S fuel (listed.setIfInBounds i true) (pu l o.dst v) w) : DR P N ops Q S (fuel + 1) listed l w :=
 let ⟨_, hr, h⟩ := h
 Zup i hi hk hd hg hr h
end rules
end Go.KLib

namespace Go.KLib
structure Ch (ws : List Nat) (w w' : World) : Prop where
 os : w'.os = w.os
 tape : w'.tape = w.tape
 output : w'.output = w.output
 size : w.heap.size ≤ w'.heap.size
 block : ∀ k, k < w.heap.size → k ∉ ws → w'.heap[k]? = w.heap[k]?
theorem Ch.refl (ws : List Nat) (w : World) : Ch ws w w := ⟨rfl, rfl, rfl, Nat.le_refl _, fun _ _ _ => rfl⟩
theorem Ch.trans {ws : List Nat} {a b c : World} (h : Ch ws a b) (k : Ch ws b c) : Ch ws a c :=
 ⟨k.os.trans h.os, k.tape.trans h.tape, k.output.trans h.output, Nat.le_trans h.size k.size, fun i hi hn => (k.block i (Nat.lt_of_lt_of_le hi h.size) hn).trans (h.block i hi hn)⟩
theorem Ch.mono {ws ws' : List Nat} {a b : World} (h : Ch ws a b) (hs : ∀ k, k < a.heap.size → k ∈ ws → k ∈ ws') : Ch ws' a b :=
 ⟨h.os, h.tape, h.output, h.size, fun k hk hn => h.block k hk fun hm => hn (hs k hk hm)⟩
theorem Ch.of_nil {ws : List Nat} {a b : World} (h : Ch [] a b) : Ch ws a b := h.mono (fun _ _ hm => by cases hm)
theorem Ch.step {ws us : List Nat} {a b c : World} (h : Ch ws a b) (k : Ch us b c) (hf : ∀ i ∈ us, a.heap.size ≤ i ∨ i ∈ ws) : Ch ws a c :=
 ⟨k.os.trans h.os, k.tape.trans h.tape, k.output.trans h.output, Nat.le_trans h.size k.size, fun i hi hn =>
  (k.block i (Nat.lt_of_lt_of_le hi h.size) fun hm => by rcases hf i hm with h' | h'; omega; exact hn h').trans (h.block i hi hn)⟩
theorem Ch.drew {ws : List Nat} {a b : World} (h : Ch ws a b) : Ch ws a { b with drawn := b.drawn + 1 } := ⟨h.os, h.tape, h.output, h.size, h.block⟩
theorem Ch.below {a b : World} (h : Ch [] a b) : RowKit.Below a.heap.size a b := ⟨h.os, h.tape, h.output, h.size, fun k hk => h.block k hk (by simp)⟩
theorem Ch.alloc (w : World) (o : Obj) : Ch [] w (w.alloc o) := ⟨rfl, rfl, rfl, by simp, fun k hk _ => RowKit.Below.heap_alloc w o k hk⟩
theorem Ch.setCell (w : World) (p : Addr) (v : Value) : Ch [p.block] w (w.setCell p v) :=
 ⟨rfl, rfl, rfl, by simp, fun k _ hn => RowKit.Below.heap_setCell w p v k (by simpa using hn)⟩
theorem Ch.of_grown {w w' : World} {row : Option Nat} (h : w.grownBy w' row) : Ch row.toList w w' :=
 ⟨h.os, h.tape, h.output, h.size, fun k hk hn => h.block k hk (fun e => hn (by rw [← e]; simp))⟩
theorem Ch.cell {ws : List Nat} {w w' : World} (h : Ch ws w w') {p : Addr} {u : Value} (hc : w.cell? p = some u) (hn : p.block ∉ ws) : w'.cell? p = some u :=
 (World.cell?_of_block (h.block p.block (World.block_lt_of_cell? w p hc) hn)).trans hc
theorem Zcq (a : Addr) (n : Nat) : (a.add n).block = a.block := by unfold Addr.add; split <;> rfl
theorem add_add (a : Addr) (i j : Nat) : (a.add i).add j = a.add (i + j) := by
 unfold Addr.add
 by_cases hi : i = 0 <;> by_cases hj : j = 0 <;> simp [hi, hj, Nat.add_assoc]
theorem add_lit (b o n : Nat) : (⟨b, o, none⟩ : Addr).add n = ⟨b, o + n, none⟩ := by unfold Addr.add; split <;> simp_all
def At (w : World) (L B : Nat) (p : Addr) (cs : List Value) : Prop := (L ≤ p.block ∧ p.block < B) ∧ ∀ j u, cs[j]? = some u → w.cell? (p.add j) = some u
section
variable {w w' : World} {L L' B B' : Nat} {p : Addr} {cs : List Value} {ws : List Nat}
theorem At.ch (h : At w L B p cs) (c : Ch ws w w') (hw : ∀ k ∈ ws, k < L ∨ B ≤ k) : At w' L B p cs :=
 ⟨h.1, fun j u hu => c.cell (h.2 j u hu) (by rw [Zcq]; intro hm; have := hw _ hm; have := h.1; omega)⟩
theorem At.ch0 (h : At w L B p cs) (c : Ch [] w w') : At w' L B p cs := h.ch c (by simp)
theorem At.up (h : At w L B p cs) (hL : L' ≤ L) (hB : B ≤ B') : At w L' B' p cs := ⟨⟨Nat.le_trans hL h.1.1, Nat.lt_of_lt_of_le h.1.2 hB⟩, h.2⟩
theorem At.cell (h : At w L B p cs) (j : Nat) {u : Value} (hu : cs[j]? = some u) : w.cell? (p.add j) = some u := h.2 j u hu
theorem At.sub (h : At w L B p cs) (o n : Nat) : At w L B (p.add o) ((cs.drop o).take n) := by
 refine ⟨by rw [Zcq]; exact h.1, fun j u hu => ?_⟩
 rw [add_add]
 refine h.2 (o + j) u ?_
 rw [List.getElem?_take] at hu
 split at hu
 ·rwa [List.getElem?_drop] at hu
 cases hu
theorem At.lt (h : At w L B p cs) : p.block < B := h.1.2
end
def Blk (w : World) (b : Nat) (t : TypeId) (cs : List Value) : Prop := w.heap[b]? = some (.cells cs.toArray t (0, 0))
section
variable {w w' : World} {b : Nat} {t : TypeId} {cs : List Value} {ws : List Nat}
theorem Blk.lt (h : Blk w b t cs) : b < w.heap.size := by
 rcases Nat.lt_or_ge b w.heap.size with hlt | hge
 ·exact hlt
 unfold Blk at h; rw [Array.getElem?_eq_none hge] at h; cases h
theorem Blk.ch (h : Blk w b t cs) (c : Ch ws w w') (hn : b ∉ ws) : Blk w' b t cs := (c.block b h.lt hn).trans h
theorem Blk.ch0 (h : Blk w b t cs) (c : Ch [] w w') : Blk w' b t cs := h.ch c (by simp)
theorem Blk.cell (h : Blk w b t cs) (i : Nat) : w.cell? ⟨b, i, none⟩ = cs[i]? := by
 unfold Blk at h
 simp [World.cell?, h]
theorem Blk.at_ (h : Blk w b t cs) : At w b (b + 1) ⟨b, 0, none⟩ cs :=
 ⟨⟨Nat.le_refl b, Nat.lt_succ_self b⟩, fun j u hu => by rw [add_lit, h.cell]; simpa using hu⟩
theorem Blk.frozen (h : Blk w b t cs) (i : Nat) : w.frozen? ⟨b, i, none⟩ = false := by
 unfold Blk at h
 simp [World.frozen?, h]
theorem Blk.new (w : World) (t : TypeId) (cs : List Value) : Blk (w.alloc (.cells cs.toArray t)) w.heap.size t cs := heap_alloc_new w _
theorem Blk.set (h : Blk w b t cs) (i : Nat) (u : Value) : Blk (w.setCell ⟨b, i, none⟩ u) b t (cs.set i u) := by
 unfold Blk at h ⊢
 simp [World.setCell, Array.getElem?_modify, h]
end
def Sl (w : World) (L B k : Nat) (v : Value) (n : Nat) (xs : List Value) : Prop :=
 xs.length = n * k ∧ ∃ A c, v = .slice A n c ∧ n ≤ c ∧ c ≤ maxLen ∧ (0 < n → ∃ ad, A = some ad ∧ At w L B ad xs)
section
variable {w w' : World} {L L' B B' k n : Nat} {v : Value} {xs : List Value} {ws : List Nat}
theorem Sl.ch (h : Sl w L B k v n xs) (c : Ch ws w w') (hw : ∀ i ∈ ws, i < L ∨ B ≤ i) : Sl w' L B k v n xs := by
 obtain ⟨hl, A, cp, hv, h1, h2, h3⟩ := h
 exact ⟨hl, A, cp, hv, h1, h2, fun hn => let ⟨ad, he, ha⟩ := h3 hn; ⟨ad, he, ha.ch c hw⟩⟩
theorem Sl.ch0 (h : Sl w L B k v n xs) (c : Ch [] w w') : Sl w' L B k v n xs := h.ch c (by simp)
theorem Sl.up (h : Sl w L B k v n xs) (hL : L' ≤ L) (hB : B ≤ B') : Sl w L' B' k v n xs := by
 obtain ⟨hl, A, cp, hv, h1, h2, h3⟩ := h
 exact ⟨hl, A, cp, hv, h1, h2, fun hn => let ⟨ad, he, ha⟩ := h3 hn; ⟨ad, he, ha.up hL hB⟩⟩
theorem Sl.nil (w : World) (L B k : Nat) : Sl w L B k (.slice none 0 0) 0 [] := ⟨by simp, none, 0, rfl, Nat.le_refl _, Nat.zero_le _, fun h => absurd h (by omega)⟩
theorem Sl.len_le (h : Sl w L B k v n xs) : n ≤ 9223372036854775807 := by
 obtain ⟨_, _, _, _, h1, h2, _⟩ := h
 simp only [maxLen] at h2
 omega
end
def Ow (w : World) (e : TypeId) (k : Nat) (v : Value) (n : Nat) (xs : List Value) : Prop :=
 xs.length = n * k ∧ ((v = .slice none 0 0 ∧ n = 0) ∨
  ∃ g off cap cur, v = .slice (some ⟨g, off, none⟩) n cap ∧ w.heap[g]? = some (.cells cur e (0, 0)) ∧ n ≤ cap ∧ cap ≤ maxLen ∧ off + cap * k ≤ cur.size ∧ (cur.toList.drop off).take (n * k) = xs)
def bl (v : Value) : List Nat := v.ownBlock.toList
def Lo (B : Nat) (v : Value) : Prop := ∀ g ∈ bl v, B ≤ g
section
variable {w w' : World} {L L' B B' k n : Nat} {e : TypeId} {v : Value} {xs : List Value} {ws : List Nat}
theorem Ow.nil (w : World) (e : TypeId) (k : Nat) : Ow w e k (.slice none 0 0) 0 [] := ⟨by simp, .inl ⟨rfl, rfl⟩⟩
theorem Lo.nil (B : Nat) : Lo B (.slice none 0 0) := by intro g hg; simp [bl, Value.ownBlock] at hg
theorem Lo.down (h : Lo B v) (hB : B' ≤ B) : Lo B' v := fun g hg => Nat.le_trans hB (h g hg)
theorem Ow.lt (h : Ow w e k v n xs) : ∀ g ∈ bl v, g < w.heap.size := by
 intro g hg
 rcases h.2 with ⟨rfl, _⟩ | ⟨g', off, cap, cur, rfl, hgg, _⟩
 ·simp [bl, Value.ownBlock] at hg
 simp [bl, Value.ownBlock] at hg
 subst hg
 exact (Array.getElem?_eq_some_iff.1 hgg).1
theorem Ow.ch (h : Ow w e k v n xs) (c : Ch ws w w') (hn : ∀ g ∈ bl v, g ∉ ws) : Ow w' e k v n xs := by
 refine ⟨h.1, ?_⟩
 rcases h.2 with h0 | ⟨g, off, cap, cur, rfl, hg, rest⟩
 ·exact .inl h0
 exact .inr ⟨g, off, cap, cur, rfl, by rw [c.block g (Array.getElem?_eq_some_iff.1 hg).1 (hn g (by simp [bl, Value.ownBlock]))]; exact hg, rest⟩
theorem Ow.ch0 (h : Ow w e k v n xs) (c : Ch [] w w') : Ow w' e k v n xs := h.ch c (by simp)
theorem Ow.cells (h : Ow w e k v n xs) {g off cap : Nat} (hv : v = .slice (some ⟨g, off, none⟩) n cap) : ∀ j u, xs[j]? = some u → w.cell? ⟨g, off + j, none⟩ = some u := by
 intro j u hu
 rcases h.2 with ⟨rfl, _⟩ | ⟨g', off', cap', cur, rfl, hg, _, _, _, ht⟩
 ·cases hv
 injection hv with h1 _ h3
 injection h1 with h1
 injection h1 with h1 h2
 subst h1 h2
 rw [← ht, List.getElem?_take] at hu
 split at hu
 ·rw [List.getElem?_drop] at hu
  simpa [World.cell?, hg] using hu
 cases hu
theorem Ow.sl (h : Ow w e k v n xs) : Sl w 0 w.heap.size k v n xs := by
 refine ⟨h.1, ?_⟩
 have hc := fun g off cap => h.cells (g := g) (off := off) (cap := cap)
 rcases h.2 with ⟨rfl, rfl⟩ | ⟨g, off, cap, cur, rfl, hg, h1, h2, h3, _⟩
 ·exact ⟨none, 0, rfl, Nat.le_refl _, Nat.zero_le _, fun h => absurd h (by omega)⟩
 exact ⟨_, cap, rfl, h1, h2, fun _ => ⟨_, rfl, ⟨Nat.zero_le _, (Array.getElem?_eq_some_iff.1 hg).1⟩, fun j u hu => by rw [add_lit]; exact hc g off cap rfl j u hu⟩⟩
theorem Ow.made (w : World) (e : TypeId) (k cap : Nat) (cur : Array Value) (n : Nat) (hn : n ≤ cap) (hm : cap ≤ maxLen) (hs : cur.size = cap * k) :
   Ow (w.alloc (.cells cur e)) e k (.slice (some ⟨w.heap.size, 0, none⟩) n cap) n (cur.toList.take (n * k)) := by
 refine ⟨?_, .inr ⟨w.heap.size, 0, cap, cur, rfl, heap_alloc_new w _, hn, hm, by omega, by simp⟩⟩
 rw [List.length_take, Array.length_toList, hs]
 exact Nat.min_eq_left (Nat.mul_le_mul_right _ hn)
theorem Ow.len_le (h : Ow w e k v n xs) : n ≤ 9223372036854775807 := h.sl.len_le
end
theorem Xb {P : Program} {N : Nat} {ops : Array Oper} {Q : Po} {id : Nat} {l : KL} {w : World} (ws : List Nat) (n : Nat) (hm : P.follows .mixedOrders = true) (hn : ops.size = n)
   (h : ∀ w1, Ch [] w w1 → DR P N ops Q (Ch ws w1) n (Array.replicate n false) l w1) : W P N (.region id ops true) Q l w := by
 subst hn
 exact Zwa (Ch ws { w with drawn := w.drawn + 1 }) hm (Ch.refl _ _) (h _ (Ch.refl [] w).drew)
theorem Sl.here {w : World} {L B k n : Nat} {v : Value} {xs : List Value} (h : Sl w L B k v n xs) (hk : 0 < k) : Sl w L w.heap.size k v n xs := by
 obtain ⟨hl, A, c, hv, h1, h2, h3⟩ := h
 refine ⟨hl, A, c, hv, h1, h2, fun hn => ?_⟩
 obtain ⟨ad, he, hb, ha⟩ := h3 hn
 refine ⟨ad, he, ⟨hb.1, ?_⟩, ha⟩
 have hx : 0 < xs.length := by rw [hl]; exact Nat.mul_pos hn hk
 have := World.block_lt_of_cell? w _ (ha 0 _ (List.getElem?_eq_getElem hx))
 rwa [Zcq] at this
end Go.KLib

namespace Go.KLib
def Yv (P : Program) (t : TypeId) : Option Bool :=
 match P.underlying t with
 | some (.struct _) | some (.array _ _) => some true
 | some _ => some false
 | none => none
def Yg (P : Program) (t : TypeId) : Option Nat := (P.info? t).map (·.size)
def Zar (P : Program) (t : TypeId) : Option Nat := (P.info? t).map (·.bytes)
def Xf (P : Program) (t : TypeId) : Option Value := (P.info? t).bind (·.zero)
def elB (P : Program) (t : TypeId) : Option TypeId :=
 match P.underlying t with
 | some (.slice e) => some e
 | _ => none
def faB (P : Program) (s field : Nat) : Option Nat :=
 match P.underlying s with
 | some (.struct fs) => match fs[field]? with
  | some f => match Yg P f.type with
   | some (_ + 1) => some f.offset
   | _ => none
  | none => none
 | _ => none
section
variable {P : Program} {w : World}
theorem Zmz {t : TypeId} {b : Bool} (h : Yv P t = some b) : (isAgg t).run P w = .ok b w := by
 unfold Yv at h
 cases hu : P.underlying t with
 | none => simp [hu] at h
 | some d => cases d <;> simp [hu] at h <;> simp [isAgg, run_underlying hu, h]
theorem Zau {t : TypeId} {n : Nat} (h : Yg P t = some n) : (sizeOf t).run P w = .ok n w := by
 unfold Yg at h
 cases hi : P.info? t with
 | none => simp [hi] at h
 | some i => simp [hi] at h; simp [sizeOf, typeInfo, hi, h]
theorem Zhw {t : TypeId} {z : Value} (h : Xf P t = some z) : (zeroValue t).run P w = .ok z w := by
 unfold Xf at h
 cases hi : P.info? t with
 | none => simp [hi] at h
 | some i => simp [hi] at h; simp [zeroValue, typeInfo, hi, h]
theorem Zbs {t e : TypeId} (h : elB P t = some e) : P.underlying t = some (.slice e) := by
 unfold elB at h
 cases hu : P.underlying t with
 | none => simp [hu] at h
 | some d => cases d <;> simp [hu] at h; rw [h]
theorem Zpc {t : TypeId} {s b : Nat} {z : Value} (hs : Yg P t = some s) (hb : Zar P t = some b) (hz : Xf P t = some z) : ∃ i, P.info? t = some i ∧ i.zero = some z ∧ i.size = s ∧ i.bytes = b := by
 unfold Yg at hs; unfold Zar at hb; unfold Xf at hz
 cases hi : P.info? t with
 | none => simp [hi] at hs
 | some i => simp [hi] at hs hb hz; exact ⟨i, rfl, hz, hs, hb⟩
variable {l : KL} {dst : Option Tmp} {ty : TypeId} {pos : String} {aft : Array Edge} {gd : Option (Nat × Bool)}
theorem Zd {x : Operand} {v : Value} (h : ev l x = some v) : Qd P l ⟨dst, .move x, ty, pos, aft, gd⟩ w v w := fun ρ hρ => by simp [execOp, hρ x v h]
theorem Zf {x : Operand} {v : Value} (h : ev l x = some v) : Qd P l ⟨dst, .assign x, ty, pos, aft, gd⟩ w v w := fun ρ hρ => by simp [execOp, hρ x v h]
theorem Ya {c x y : Operand} {u : Value} (hc : ev l c = some (.bool true)) (hx : ev l x = some u) : Qd P l ⟨dst, .pick c x y, ty, pos, aft, gd⟩ w u w := fun ρ hρ => by
 simp [execOp, hρ _ _ hc, hρ _ _ hx, asBool]
theorem Yb {c x y : Operand} {v : Value} (hc : ev l c = some (.bool false)) (hy : ev l y = some v) : Qd P l ⟨dst, .pick c x y, ty, pos, aft, gd⟩ w v w := fun ρ hρ => by
 simp [execOp, hρ _ _ hc, hρ _ _ hy, asBool]
theorem Yf {x : Operand} {p : Addr} (h : ev l x = some (.pointer (some p))) : Qd P l ⟨dst, .nilCheck x, ty, pos, aft, gd⟩ w (.pointer (some p)) w := fun ρ hρ => by simp [execOp, hρ x _ h]
theorem Zbh {x : Operand} {t : TypeId} {b : Bool} (h : ev l x = some (.bool b)) : Qd P l ⟨dst, .unOp .not t x, ty, pos, aft, gd⟩ w (.bool (!b)) w := fun ρ hρ => by simp [execOp, hρ x _ h, Op.unary]
theorem Qh {x : Operand} {vs : Array Value} {i : Nat} {v : Value} (h : ev l x = some (.tuple vs)) (hi : vs[i]? = some v) : Qd P l ⟨dst, .extract x i, ty, pos, aft, gd⟩ w v w := fun ρ hρ => by
 simp [execOp, hρ x _ h, Instr.extract, hi]
theorem Zh {x : Operand} {s field off : Nat} {p : Addr} (hs : faB P s field = some off) (h : ev l x = some (.pointer (some p))) :
   Qd P l ⟨dst, .fieldAddr s x field, ty, pos, aft, gd⟩ w (.pointer (some (p.add off))) w := fun ρ hρ => by
 unfold faB at hs
 cases hu : P.underlying s with
 | none => simp [hu] at hs
 | some d =>
  cases d with
  | struct fs =>
   simp only [hu] at hs
   cases hf : fs[field]? with
   | none => simp [hf] at hs
   | some f =>
    simp only [hf] at hs
    cases hz : Yg P f.type with
    | none => simp [hz] at hs
    | some n =>
     cases n with
     | zero => simp [hz] at hs
     | succ n =>
      simp [hz] at hs
      simp [execOp, hρ x _ h, Instr.fieldAt, run_underlying hu, hf, Instr.sureAddr, fieldPlace, Zau hz, hs]
  | _ => simp [hu] at hs
theorem Zoz {x : Operand} {t : TypeId} {p : Addr} {v : Value} (ht : Yv P t = some false) (h : ev l x = some (.pointer (some p))) (hc : w.cell? p = some v) :
   Qd P l ⟨dst, .load t x, ty, pos, aft, gd⟩ w v w := fun ρ hρ => by
 simp [execOp, hρ x _ h, Instr.loadAt, Instr.sureAddr, loadVar, Zmz ht, hc]
theorem Zlk {t : TypeId} {p : Addr} {cs : List Value} (ht : Yv P t = some true) (hz : Yg P t = some cs.length) (hc : ∀ j u, cs[j]? = some u → w.cell? (p.add j) = some u) :
   (loadVar t p).run P w = .ok (.agg cs.toArray) w := by
 simp [loadVar, Zmz ht, Zau hz, run_loadCells_list w p cs hc]
theorem Zpz {x : Operand} {t : TypeId} {p : Addr} {cs : List Value} (ht : Yv P t = some true) (hz : Yg P t = some cs.length) (h : ev l x = some (.pointer (some p)))
   (hc : ∀ j u, cs[j]? = some u → w.cell? (p.add j) = some u) : Qd P l ⟨dst, .load t x, ty, pos, aft, gd⟩ w (.agg cs.toArray) w := fun ρ hρ => by
 simp [execOp, hρ x _ h, Instr.loadAt, Instr.sureAddr, Zlk ht hz hc]
theorem Zk {x : Operand} {t : TypeId} {p : Addr} {L B off : Nat} {cs : List Value} {v : Value} (ha : At w L B p cs) (ht : Yv P t = some false) (h : ev l x = some (.pointer (some (p.add off)))) (hv : cs[off]? = some v) :
 Qd P l ⟨dst, .load t x, ty, pos, aft, gd⟩ w v w := Zoz ht h (ha.cell off hv)
theorem Zll {x : Operand} {t : TypeId} {p : Addr} {L B off : Nat} {cs : List Value} (n : Nat) (ha : At w L B p cs) (ht : Yv P t = some true) (hz : Yg P t = some n) (hn : ((cs.drop off).take n).length = n) (h : ev l x = some (.pointer (some (p.add off)))) :
 Qd P l ⟨dst, .load t x, ty, pos, aft, gd⟩ w (.agg ((cs.drop off).take n).toArray) w := Zpz ht (by rw [hn]; exact hz) h (ha.sub off n).2
theorem Yr {x : Operand} {t : TypeId} {p : Addr} {L B : Nat} {cs : List Value} {v : Value} (ha : At w L B p cs) (ht : Yv P t = some false) (h : ev l x = some (.pointer (some p))) (hv : cs[0]? = some v) :
 Qd P l ⟨dst, .load t x, ty, pos, aft, gd⟩ w v w := Zoz ht h (ha.cell 0 hv)
theorem Zy {x : Operand} {t : TypeId} {p : Addr} {L B : Nat} {cs : List Value} (ha : At w L B p cs) (ht : Yv P t = some true) (hz : Yg P t = some cs.length) (h : ev l x = some (.pointer (some p))) :
 Qd P l ⟨dst, .load t x, ty, pos, aft, gd⟩ w (.agg cs.toArray) w := Zpz ht hz h ha.2
section
variable {x y : Operand} {xt yt : TypeId} {k : IntKind} {a b : Int}
theorem Xs (hx : ev l x = some (.int k a)) (hy : ev l y = some (.int k b)) : Qd P l ⟨dst, .binOp .lss xt x y yt, ty, pos, aft, gd⟩ w (.bool (decide (a < b))) w := fun ρ hρ => by
 simp [execOp, hρ _ _ hx, hρ _ _ hy, eqGuard, binOp, Op.intCmp]
theorem Zgl (hx : ev l x = some (.int k a)) (hy : ev l y = some (.int k b)) : Qd P l ⟨dst, .binOp .leq xt x y yt, ty, pos, aft, gd⟩ w (.bool (decide (a ≤ b))) w := fun ρ hρ => by
 simp [execOp, hρ _ _ hx, hρ _ _ hy, eqGuard, binOp, Op.intCmp]
theorem Zcp (hx : ev l x = some (.int k a)) (hy : ev l y = some (.int k b)) : Qd P l ⟨dst, .binOp .gtr xt x y yt, ty, pos, aft, gd⟩ w (.bool (decide (b < a))) w := fun ρ hρ => by
 simp [execOp, hρ _ _ hx, hρ _ _ hy, eqGuard, binOp, Op.intCmp]
theorem Zra (hx : ev l x = some (.int k a)) (hy : ev l y = some (.int k b)) : Qd P l ⟨dst, .binOp .geq xt x y yt, ty, pos, aft, gd⟩ w (.bool (decide (b ≤ a))) w := fun ρ hρ => by
 simp [execOp, hρ _ _ hx, hρ _ _ hy, eqGuard, binOp, Op.intCmp]
theorem Yy (hx : ev l x = some (.int k a)) (hy : ev l y = some (.int k b)) : Qd P l ⟨dst, .binOp .eql xt x y yt, ty, pos, aft, gd⟩ w (.bool (decide (a = b))) w := fun ρ hρ => by
 have e : (a == b) = decide (a = b) := by by_cases h : a = b <;> simp [h]
 simp [execOp, hρ _ _ hx, hρ _ _ hy, eqGuard, binOp, Op.intCmp, e]
theorem Zbg (hx : ev l x = some (.int k a)) (hy : ev l y = some (.int k b)) : Qd P l ⟨dst, .binOp .neq xt x y yt, ty, pos, aft, gd⟩ w (.bool (!decide (a = b))) w := fun ρ hρ => by
 have e : (a != b) = !decide (a = b) := by by_cases h : a = b <;> simp [h]
 simp [execOp, hρ _ _ hx, hρ _ _ hy, eqGuard, binOp, Op.intCmp, e]
theorem Ztd (hx : ev l x = some (.int k a)) (hy : ev l y = some (.int k b)) : Qd P l ⟨dst, .binOp .add xt x y yt, ty, pos, aft, gd⟩ w (.int k (k.wrap (a + b))) w := fun ρ hρ => by
 simp [execOp, hρ _ _ hx, hρ _ _ hy, eqGuard, binOp, Op.intArith]
theorem Ztb (hx : ev l x = some (.int k a)) (hy : ev l y = some (.int k b)) : Qd P l ⟨dst, .binOp .sub xt x y yt, ty, pos, aft, gd⟩ w (.int k (k.wrap (a - b))) w := fun ρ hρ => by
 simp [execOp, hρ _ _ hx, hρ _ _ hy, eqGuard, binOp, Op.intArith]
theorem Zth (hx : ev l x = some (.int k a)) (hy : ev l y = some (.int k b)) : Qd P l ⟨dst, .binOp .mul xt x y yt, ty, pos, aft, gd⟩ w (.int k (k.wrap (a * b))) w := fun ρ hρ => by
 simp [execOp, hρ _ _ hx, hρ _ _ hy, eqGuard, binOp, Op.intArith]
theorem Yo (h : -9223372036854775808 ≤ a + b ∧ a + b ≤ 9223372036854775807) (hx : ev l x = some (.int .i64 a)) (hy : ev l y = some (.int .i64 b)) : Qd P l ⟨dst, .binOp .add xt x y yt, ty, pos, aft, gd⟩ w (.int .i64 (a + b)) w := by
 have := Ztd (P := P) (w := w) (dst := dst) (xt := xt) (yt := yt) (ty := ty) (pos := pos) (aft := aft) (gd := gd) hx hy
 rwa [IntWalk.i64_in _ h] at this
theorem Zav (h : -9223372036854775808 ≤ a - b ∧ a - b ≤ 9223372036854775807) (hx : ev l x = some (.int .i64 a)) (hy : ev l y = some (.int .i64 b)) : Qd P l ⟨dst, .binOp .sub xt x y yt, ty, pos, aft, gd⟩ w (.int .i64 (a - b)) w := by
 have := Ztb (P := P) (w := w) (dst := dst) (xt := xt) (yt := yt) (ty := ty) (pos := pos) (aft := aft) (gd := gd) hx hy
 rwa [IntWalk.i64_in _ h] at this
theorem Zok (h : -9223372036854775808 ≤ a * b ∧ a * b ≤ 9223372036854775807) (hx : ev l x = some (.int .i64 a)) (hy : ev l y = some (.int .i64 b)) : Qd P l ⟨dst, .binOp .mul xt x y yt, ty, pos, aft, gd⟩ w (.int .i64 (a * b)) w := by
 have := Zth (P := P) (w := w) (dst := dst) (xt := xt) (yt := yt) (ty := ty) (pos := pos) (aft := aft) (gd := gd) hx hy
 rwa [IntWalk.i64_in _ h] at this
theorem Zdo {src d : TypeId} (hs : (P.underlying src).isSome = true) (hd : P.underlying d = some (.int k)) {k' : IntKind} (hx : ev l x = some (.int k' a)) :
   Qd P l ⟨dst, .convert src d x, ty, pos, aft, gd⟩ w (.int k (k.wrap a)) w := fun ρ hρ => by
 obtain ⟨d', hd'⟩ := Option.isSome_iff_exists.mp hs
 simp [execOp, hρ _ _ hx, convert, run_underlying hd', run_underlying hd, Conv.intToInt]
theorem Zie {src d : TypeId} (h : -9223372036854775808 ≤ a ∧ a ≤ 9223372036854775807) (hs : (P.underlying src).isSome = true) (hd : P.underlying d = some (.int .i64)) {k' : IntKind} (hx : ev l x = some (.int k' a)) :
   Qd P l ⟨dst, .convert src d x, ty, pos, aft, gd⟩ w (.int .i64 a) w := by
 have := Zdo (P := P) (w := w) (dst := dst) (ty := ty) (pos := pos) (aft := aft) (gd := gd) hs hd hx
 rwa [IntWalk.i64_in _ h] at this
theorem Zef {t : TypeId} {p q : Bool} (ht : P.underlying t = some .bool) : (Op.equal t (.bool p) (.bool q)).run P w = .ok (p == q) w := by
 have e : ∀ d, (Op.equalIn (d + 1) t (.bool p) (.bool q)).run P w = .ok (p == q) w := fun d => by
  simp [Op.equalIn, run_underlying ht]
 exact e 9999
theorem Zdg {p q : Bool} (ht : P.underlying xt = some .bool) (hx : ev l x = some (.bool p)) (hy : ev l y = some (.bool q)) : Qd P l ⟨dst, .binOp .eql xt x y yt, ty, pos, aft, gd⟩ w (.bool (p == q)) w := fun ρ hρ => by
 have e : binOp .eql xt (.bool p) (.bool q) = (do pure (.bool (← Op.equal xt (.bool p) (.bool q)))) := rfl
 simp [execOp, hρ _ _ hx, hρ _ _ hy, eqGuard, e, Zef ht]
theorem Zmq {p q : Bool} (ht : P.underlying xt = some .bool) (hx : ev l x = some (.bool p)) (hy : ev l y = some (.bool q)) : Qd P l ⟨dst, .binOp .neq xt x y yt, ty, pos, aft, gd⟩ w (.bool (!(p == q))) w := fun ρ hρ => by
 have e : binOp .neq xt (.bool p) (.bool q) = (do pure (.bool (!(← Op.equal xt (.bool p) (.bool q))))) := rfl
 simp [execOp, hρ _ _ hx, hρ _ _ hy, eqGuard, e, Zef ht]
end
theorem Xc {x : Operand} {t : TypeId} {A : Option Addr} {n c : Nat} (ht : (elB P t).isSome = true) (h : ev l x = some (.slice A n c)) :
   Qd P l ⟨dst, .call { callee := .builtin .len, args := #[x], argTypes := #[t] }, ty, pos, aft, gd⟩ w (.int .i64 n) w := fun ρ hρ => by
 obtain ⟨e, he⟩ := Option.isSome_iff_exists.mp ht
 simp [execOp, resolve, invoke, builtin, Builtin.len_, run_underlying (Zbs he), hρ _ _ h, goInt]
theorem Zpo {x ix : Operand} {t e : TypeId} {k n L B : Nat} {v : Value} {xs : List Value} {i : Int} {q : IntKind} (hs : Sl w L B k v n xs) (ht : elB P t = some e) (hk : Yg P e = some k)
   (hx : ev l x = some v) (hi : ev l ix = some (.int q i)) (h0 : 0 ≤ i) (h1 : i < n) :
   ∃ p, (∀ w', Qd P l ⟨dst, .indexAddr t x ix, ty, pos, aft, gd⟩ w' (.pointer (some p)) w') ∧ At w L B p ((xs.drop (i.toNat * k)).take k) := by
 obtain ⟨hl, A, c, rfl, hc, hm, hA⟩ := hs
 obtain ⟨ad, rfl, ha⟩ := hA (by omega)
 refine ⟨ad.add (i.toNat * k), fun w' ρ hρ => ?_, ha.sub _ _⟩
 simp [execOp, hρ _ _ hx, hρ _ _ hi, Instr.indexAt, asIntOf, run_underlying (Zbs ht), Zau hk, h0, h1]
theorem Zro {x ix : Operand} {t e : TypeId} {k n : Nat} {v : Value} {xs : List Value} {i : Int} {q : IntKind} {e' : TypeId} (hs : Ow w e' k v n xs) (ht : elB P t = some e) (hk : Yg P e = some k)
   (hx : ev l x = some v) (hi : ev l ix = some (.int q i)) (h0 : 0 ≤ i) (h1 : i < n) :
   ∃ g off cap, v = .slice (some ⟨g, off, none⟩) n cap ∧ ∀ w', Qd P l ⟨dst, .indexAddr t x ix, ty, pos, aft, gd⟩ w' (.pointer (some ⟨g, off + i.toNat * k, none⟩)) w' := by
 rcases hs.2 with ⟨rfl, rfl⟩ | ⟨g, off, cap, cur, rfl, _⟩
 ·omega
 refine ⟨g, off, cap, rfl, fun w' ρ hρ => ?_⟩
 simp [execOp, hρ _ _ hx, hρ _ _ hi, Instr.indexAt, asIntOf, run_underlying (Zbs ht), Zau hk, h0, h1, add_lit]
theorem Zww {x : Operand} {t : TypeId} {v : Value} (h : ev l x = some v) :
   ∃ b w', Qd P l ⟨dst, .box t x, ty, pos, aft, gd⟩ w (.pointer (some ⟨b, 0, none⟩)) w' ∧ Blk w' b t v.cells.toList ∧ Ch [] w w' ∧ b = w.heap.size := by
 refine ⟨w.heap.size, w.alloc (.cells v.cells.toList.toArray t), fun ρ hρ => ?_, Blk.new w t _, Ch.alloc w _, rfl⟩
 simp [execOp, hρ _ _ h, Instr.box, newVar, newRow]
theorem Zug {t : TypeId} {z : Value} (hz : Xf P t = some z) :
   ∃ b w', Qd P l ⟨dst, .alloc t, ty, pos, aft, gd⟩ w (.pointer (some ⟨b, 0, none⟩)) w' ∧ Blk w' b t z.cells.toList ∧ Ch [] w w' ∧ b = w.heap.size := by
 refine ⟨w.heap.size, w.alloc (.cells z.cells.toList.toArray t), fun ρ _ => ?_, Blk.new w t _, Ch.alloc w _, rfl⟩
 simp [execOp, Instr.alloc, Zhw hz, newVar, newRow]
theorem Zrn {a x : Operand} {t t' : TypeId} {b off : Nat} {cs : List Value} {v : Value} (hb : Blk w b t' cs) (ht : Yg P t = some 1) (h1 : v.oneCell' = true)
   (ha : ev l a = some (.pointer (some (Addr.add ⟨b, 0, none⟩ off)))) (hx : ev l x = some v) (ho : Nat.blt off cs.length = true) :
   ∃ w', Zqy P l ⟨dst, .store t a x, ty, pos, aft, gd⟩ w w' ∧ Blk w' b t' (cs.set off v) ∧ Ch [b] w w' := by
 have hlt : off < cs.length := by simpa [Nat.blt_eq] using ho
 refine ⟨w.setCell ⟨b, off, none⟩ v, fun ρ hρ => ?_, hb.set off v, Ch.setCell w ⟨b, off, none⟩ v⟩
 have hvc : v.cells = #[v] := by cases v <;> simp_all [Value.oneCell', Value.cells]
 have hst : (store (Addr.add (Addr.add ⟨b, 0, none⟩ off) 0) v).run P w = .ok () (w.setCell ⟨b, off, none⟩ v) := by
  rw [add_add, add_lit, run_store P w _ v _ h1]
  simp only [Nat.zero_add, Nat.add_zero]
  rw [hb.cell off, hb.frozen off, List.getElem?_eq_getElem hlt]
  rfl
 simp [execOp, hρ _ _ ha, hρ _ _ hx, Instr.storeAt, Instr.sureAddr, storeVar, hvc, Zau ht, storeCells, hst]
theorem Zdh {w : World} {g : Nat} {cur cs : Array Value} {t : TypeId} (hg : w.heap[g]? = some (.cells cur t (0, 0))) : (w.setRow g cs).heap[g]? = some (.cells cs t (0, 0)) := setRow_heap w g cur cs t _ hg
theorem Ch.setRow (w : World) (g : Nat) (cs : Array Value) : Ch [g] w (w.setRow g cs) := ⟨rfl, rfl, rfl, by simp, fun k _ hn => setRow_other w g k _ (by simpa using hn)⟩
theorem Zsb {a x : Operand} {t t' : TypeId} {b off : Nat} {cs us : List Value} (hb : Blk w b t' cs) (ht : Yg P t = some us.length) (h1 : us.all Value.oneCell' = true)
   (ha : ev l a = some (.pointer (some (Addr.add ⟨b, 0, none⟩ off)))) (hx : ev l x = some (.agg us.toArray)) (ho : Nat.ble (off + us.length) cs.length = true) :
   ∃ w', Zqy P l ⟨dst, .store t a x, ty, pos, aft, gd⟩ w w' ∧ Blk w' b t' (cs.take off ++ us ++ cs.drop (off + us.length)) ∧ Ch [b] w w' := by
 have hle : off + us.length ≤ cs.length := Nat.le_of_ble_eq_true ho
 have hst := run_storeCells_at (P := P) b off t' us 0 cs.toArray w hb (by simpa using hle) (by simpa using h1)
 refine ⟨w.setRow b (cs.take off ++ us ++ cs.drop (off + us.length)).toArray, fun ρ hρ => ?_, Zdh hb, Ch.setRow w b _⟩
 simp only [Nat.add_zero] at hst
 simp [execOp, hρ _ _ ha, hρ _ _ hx, Instr.storeAt, Instr.sureAddr, storeVar, Value.cells, Zau ht, add_lit, hst]
theorem Zrv {a x : Operand} {t e : TypeId} {g off cap n k j : Nat} {v : Value} {xs us : List Value} (hs : Ow w e k v n xs) (hv : v = .slice (some ⟨g, off, none⟩) n cap) (hu : us.length = k) (ht : Yg P t = some k) (h1 : us.all Value.oneCell' = true)
   (ha : ev l a = some (.pointer (some ⟨g, off + j * k, none⟩))) (hx : ∃ u, ev l x = some u ∧ u.cells = us.toArray) (hj : j < n) :
   ∃ w', Zqy P l ⟨dst, .store t a x, ty, pos, aft, gd⟩ w w' ∧ Ow w' e k v n (xs.take (j * k) ++ us ++ xs.drop (j * k + k)) ∧ Ch [g] w w' := by
 obtain ⟨u, hxu, hcells⟩ := hx
 rcases hs.2 with ⟨rfl, _⟩ | ⟨g', off', cap', cur, rfl, hg, hn, hm, hc, htk⟩
 ·cases hv
 injection hv with h1' _ h3
 injection h1' with h1'
 injection h1' with h1' h2'
 subst h1' h2' h3
 have hjk : j * k + k ≤ n * k := by rw [← Nat.succ_mul]; exact Nat.mul_le_mul_right _ hj
 have hnk : n * k ≤ cap' * k := Nat.mul_le_mul_right _ hn
 have hst := run_storeCells_at (P := P) g' (off' + j * k) e us 0 cur w hg (by omega) (by simpa using h1)
 refine ⟨w.setRow g' (cur.toList.take (off' + j * k) ++ us ++ cur.toList.drop (off' + j * k + us.length)).toArray, fun ρ hρ => ?_, ⟨?_, .inr ⟨g', off', cap', _, rfl, Zdh hg, hn, hm, ?_, ?_⟩⟩, Ch.setRow w g' _⟩
 ·simp only [Nat.add_zero] at hst
  simp [execOp, hρ _ _ ha, hρ _ _ hxu, Instr.storeAt, Instr.sureAddr, storeVar, hcells, hu, Zau ht, hst]
 ·have hl := hs.1
  simp only [List.length_append, List.length_take, List.length_drop, hu, hl]
  omega
 ·simp only [List.size_toArray, List.length_append, List.length_take, List.length_drop, Array.length_toList]
  omega
 have hcl : off' + cap' * k ≤ cur.toList.length := by simpa using hc
 apply List.ext_getElem?
 intro i
 have hxl := hs.1
 rw [← htk]
 simp only [List.getElem?_take, List.getElem?_drop, List.getElem?_append, List.length_append, List.length_take, List.length_drop, hu]
 have e1 : min (off' + j * k) cur.toList.length = off' + j * k := by omega
 have e2 : min (j * k) (min (n * k) (cur.toList.length - off')) = j * k := by omega
 rw [e1, e2]
 by_cases hi : i < n * k
 ·rw [if_pos hi]
  by_cases h1 : i < j * k
  ·rw [if_pos (by omega), if_pos (by omega), if_pos (by omega), if_pos (by omega), if_pos h1, if_pos hi, if_pos h1]
  by_cases h2 : i < j * k + k
  ·rw [if_pos (by omega), if_neg (by omega), if_pos (by omega), if_neg (by omega)]
   congr 1
   omega
  rw [if_neg (by omega), if_neg (by omega), if_pos (by omega)]
  congr 1
  omega
 rw [if_neg hi, if_neg (by omega), if_neg (by omega)]
end
end Go.KLib

namespace Go.KLib
def evs (l : KL) : List Operand → Option (List Value)
 | [] => some []
 | x :: xs => match ev l x, evs l xs with
  | some v, some vs => some (v :: vs)
  | _, _ => none
theorem Zhn {l : KL} {ρ : Operand → Value} (hρ : ∀ x u, ev l x = some u → ρ x = u) : ∀ (xs : List Operand) (vs : List Value), evs l xs = some vs → xs.map ρ = vs
 | [], vs, h => by simp [evs] at h; simp [h]
 | x :: xs, vs, h => by
  simp only [evs] at h
  cases h1 : ev l x with
  | none => simp [h1] at h
  | some u =>
   cases h2 : evs l xs with
   | none => simp [h1, h2] at h
   | some us =>
    simp [h1, h2] at h
    rw [List.map_cons, hρ x u h1, Zhn hρ xs us h2, h]
def fnB (P : Program) (f : FuncId) : Bool :=
 match P.funcs[f]? with
 | some fn => !(fn.name == "runtime.NumGoroutine") && fn.body.isSome
 | none => false
section
variable {P : Program} {w : World} {l : KL} {dst : Option Tmp} {ty : TypeId} {pos : String} {aft : Array Edge} {gd : Option (Nat × Bool)}
theorem Zgj {f : FuncId} (h : fnB P f = true) (args : Array Value) : (callFunc f args).run P w = .ok (.enter f args) w := by
 unfold fnB at h
 cases hf : P.funcs[f]? with
 | none => simp [hf] at h
 | some fn =>
  simp only [hf, Bool.and_eq_true, Bool.not_eq_true'] at h
  have hb : fn.body ≠ none := by intro hn; rw [hn] at h; simp at h
  have hnm : fn.name ≠ "runtime.NumGoroutine" := by simpa using h.1
  simp [callFunc, hf, hnm, hb]
theorem Zl {f : FuncId} {xs : List Operand} {vs : List Value} {ts : Array TypeId} (hf : fnB P f = true) (hx : evs l xs = some vs) :
   Ztn P l ⟨dst, .call { callee := .value (.func f), args := xs.toArray, argTypes := ts }, ty, pos, aft, gd⟩ w f vs.toArray := fun ρ hρ => by
 have h1 : ρ (.func f) = .func (.func f) #[] #[] := hρ _ _ rfl
 have h2 := Zhn hρ xs vs hx
 simp [execOp, resolve, h1, h2, Deferred.ofValue, invoke, Zgj hf]
theorem Zmm {f : FuncId} {t : Nat} {first captured : Array Value} {xs : List Operand} {vs as' : List Value} {ts : Array TypeId} (hf : fnB P f = true) (ht : look l t = some (.func (.func f) first captured)) (hx : evs l xs = some vs) (ha : first.toList ++ vs ++ captured.toList = as') :
   Ztn P l ⟨dst, .call { callee := .value (.tmp t), args := xs.toArray, argTypes := ts }, ty, pos, aft, gd⟩ w f as'.toArray := fun ρ hρ => by
 have h1 : ρ (.tmp t) = _ := hρ (.tmp t) _ ht
 have h2 := Zhn hρ xs vs hx
 have h3 : first ++ vs.toArray ++ captured = as'.toArray := by rw [← ha]; simp
 simp [execOp, resolve, h1, h2, Deferred.ofValue, invoke, Zgj hf]
 simpa using h3
theorem Zoc {fn : Fn} {xs ys : List Operand} {vs us : List Value} (hx : evs l xs = some vs) (hy : evs l ys = some us) :
   Qd P l ⟨dst, .makeFunc fn xs.toArray ys.toArray, ty, pos, aft, gd⟩ w (.func fn vs.toArray us.toArray) w := fun ρ hρ => by
 simp [execOp, Instr.makeFunc, Zhn hρ xs vs hx, Zhn hρ ys us hy]
variable {K : Value → World → Prop}
theorem s_v {o : Oper} {v : Value} (hr : Qd P l o w v w) (h : K v w) : Step P l o w K := Step.of hr h
theorem Qw {x : Operand} {t : TypeId} {v : Value} (h : ev l x = some v) (k : ∀ b w', Blk w' b t v.cells.toList → Ch [] w w' → b = w.heap.size → K (.pointer (some ⟨b, 0, none⟩)) w') :
   Step P l ⟨dst, .box t x, ty, pos, aft, gd⟩ w K := by
 obtain ⟨b, w', hr, h1, h2, h3⟩ := Zww (P := P) (w := w) (dst := dst) (t := t) (ty := ty) (pos := pos) (aft := aft) (gd := gd) h
 exact Step.of hr (k b w' h1 h2 h3)
theorem Yh {t : TypeId} {z : Value} (hz : Xf P t = some z) (k : ∀ b w', Blk w' b t z.cells.toList → Ch [] w w' → b = w.heap.size → K (.pointer (some ⟨b, 0, none⟩)) w') :
   Step P l ⟨dst, .alloc t, ty, pos, aft, gd⟩ w K := by
 obtain ⟨b, w', hr, h1, h2, h3⟩ := Zug (P := P) (w := w) (l := l) (dst := dst) (ty := ty) (pos := pos) (aft := aft) (gd := gd) hz
 exact Step.of hr (k b w' h1 h2 h3)
theorem Xm {a x : Operand} {t t' : TypeId} {b off : Nat} {cs : List Value} {v : Value} (hb : Blk w b t' cs) (ht : Yg P t = some 1)
   (ha : ev l a = some (.pointer (some (Addr.add ⟨b, 0, none⟩ off)))) (hx : ev l x = some v) (h1 : v.oneCell' = true) (ho : Nat.blt off cs.length = true)
   (k : ∀ w', Blk w' b t' (cs.set off v) → Ch [b] w w' → K undef w') : Step P l ⟨dst, .store t a x, ty, pos, aft, gd⟩ w K := by
 obtain ⟨w', hr, h2, h3⟩ := Zrn (P := P) (w := w) (dst := dst) (ty := ty) (pos := pos) (aft := aft) (gd := gd) hb ht h1 ha hx ho
 exact Step.ofU hr (k w' h2 h3)
theorem Zn {a x : Operand} {t t' : TypeId} {b off : Nat} {cs us : List Value} (n : Nat) (hb : Blk w b t' cs) (ht : Yg P t = some n)
   (ha : ev l a = some (.pointer (some (Addr.add ⟨b, 0, none⟩ off)))) (hx : ev l x = some (.agg us.toArray)) (hn : us.length = n) (h1 : us.all Value.oneCell' = true) (ho : Nat.ble (off + us.length) cs.length = true)
   (k : ∀ w', Blk w' b t' (cs.take off ++ us ++ cs.drop (off + us.length)) → Ch [b] w w' → K undef w') : Step P l ⟨dst, .store t a x, ty, pos, aft, gd⟩ w K := by
 obtain ⟨w', hr, h2, h3⟩ := Zsb (P := P) (w := w) (dst := dst) (ty := ty) (pos := pos) (aft := aft) (gd := gd) hb (by rw [hn]; exact ht) h1 ha hx ho
 exact Step.ofU hr (k w' h2 h3)
theorem Zhb {α : Type} {cs : α → List Value} {k : Nat} (hc : ∀ x, (cs x).length = k) : ∀ (xs : List α) (i : Nat) (x : α), xs[i]? = some x → ((xs.flatMap cs).drop (i * k)).take k = cs x
 | [], i, x, h => by simp at h
 | y :: ys, 0, x, h => by
  simp at h
  subst h
  simp only [List.flatMap_cons, Nat.zero_mul, List.drop_zero]
  rw [← hc y, List.take_left]
 | y :: ys, i + 1, x, h => by
  have ih := Zhb hc ys i x (by simpa using h)
  simp only [List.flatMap_cons]
  rw [Nat.succ_mul, Nat.add_comm (i * k) k, ← List.drop_drop]
  conv => lhs; rw [← hc y]
  rw [List.drop_left, hc y]
  exact ih
theorem flat_len {α : Type} {cs : α → List Value} {k : Nat} (hc : ∀ x, (cs x).length = k) (xs : List α) : (xs.flatMap cs).length = xs.length * k := by
 induction xs with
 | nil => simp
 | cons x xs ih => simp [hc, ih, Nat.succ_mul, Nat.add_comm]
def Ls {α : Type} (cs : α → List Value) (k : Nat) (w : World) (L B : Nat) (v : Value) (xs : List α) : Prop := Sl w L B k v xs.length (xs.flatMap cs)
def Ol {α : Type} (cs : α → List Value) (e k : Nat) (w : World) (v : Value) (xs : List α) : Prop := Ow w e k v xs.length (xs.flatMap cs)
section
variable {α : Type} {cs : α → List Value} {e k L L' B B' : Nat} {v : Value} {xs : List α} {w' : World} {ws : List Nat}
theorem Ls.ch (h : Ls cs k w L B v xs) (c : Ch ws w w') (hw : ∀ i ∈ ws, i < L ∨ B ≤ i) : Ls cs k w' L B v xs := Sl.ch h c hw
theorem Ls.ch0 (h : Ls cs k w L B v xs) (c : Ch [] w w') : Ls cs k w' L B v xs := Sl.ch0 h c
theorem Ls.up (h : Ls cs k w L B v xs) (hL : L' ≤ L) (hB : B ≤ B') : Ls cs k w L' B' v xs := Sl.up h hL hB
theorem Ls.here (h : Ls cs k w L B v xs) (hk : 0 < k) : Ls cs k w L w.heap.size v xs := Sl.here h hk
theorem Ls.eq {ys : List α} (h : Ls cs k w L B v xs) (he : xs = ys) : Ls cs k w L B v ys := by subst he; exact h
theorem Ol.eq {ys : List α} (h : Ol cs e k w v xs) (he : xs = ys) : Ol cs e k w v ys := by subst he; exact h
theorem Ls.nil (w : World) (L B : Nat) : Ls cs k w L B (.slice none 0 0) ([] : List α) := Sl.nil w L B k
theorem Ls.len (h : Ls cs k w L B v xs) : xs.length ≤ 9223372036854775807 := Sl.len_le h
theorem Ls.val (h : Ls cs k w L B v xs) : ∃ A c, v = .slice A xs.length c := by obtain ⟨_, A, c, hv, _⟩ := h; exact ⟨A, c, hv⟩
theorem Ol.ch (h : Ol cs e k w v xs) (c : Ch ws w w') (hn : ∀ g ∈ bl v, g ∉ ws) : Ol cs e k w' v xs := Ow.ch h c hn
theorem Ol.ch0 (h : Ol cs e k w v xs) (c : Ch [] w w') : Ol cs e k w' v xs := Ow.ch0 h c
theorem Ol.ls (h : Ol cs e k w v xs) : Ls cs k w 0 w.heap.size v xs := Ow.sl h
theorem Ol.lt (h : Ol cs e k w v xs) : ∀ g ∈ bl v, g < w.heap.size := Ow.lt h
theorem Ol.nil (w : World) : Ol cs e k w (.slice none 0 0) ([] : List α) := Ow.nil w e k
theorem Ol.len (h : Ol cs e k w v xs) : xs.length ≤ 9223372036854775807 := Ow.len_le h
theorem Ol.val (h : Ol cs e k w v xs) : ∃ A c, v = .slice A xs.length c := h.ls.val
theorem Yw {x ix : Operand} {t : TypeId} {j : Nat} {i : Int} {q : IntKind} (hs : Ls cs k w L B v xs) (hc : ∀ x, (cs x).length = k) (ht : elB P t = some e) (hk : Yg P e = some k)
   (hx : ev l x = some v) (hi : ev l ix = some (.int q i)) (hj : i = (j : Int)) (h1 : j < xs.length)
   (kk : ∀ p y, xs[j]? = some y → At w L B p (cs y) → K (.pointer (some p)) w) : Step P l ⟨dst, .indexAddr t x ix, ty, pos, aft, gd⟩ w K := by
 subst hj
 obtain ⟨p, hr, ha⟩ := Zpo (P := P) (dst := dst) (ty := ty) (pos := pos) (aft := aft) (gd := gd) hs ht hk hx hi (by omega) (by omega)
 have hy : xs[j]? = some xs[j] := List.getElem?_eq_getElem h1
 rw [Int.toNat_natCast, Zhb hc xs j _ hy] at ha
 exact Step.of (hr w) (kk p _ hy ha)
theorem Xo {S : World → Prop} {G : Value → Prop} {w0 : World} {x ix : Operand} {t : TypeId} {j : Nat} {i : Int} {q : IntKind} (hs : Ls cs k w0 L B v xs) (hc : ∀ x, (cs x).length = k) (ht : elB P t = some e) (hk : Yg P e = some k)
   (hx : ev l x = some v) (hi : ev l ix = some (.int q i)) (hj : i = (j : Int)) (h1 : j < xs.length)
   (kk : ∀ p y, xs[j]? = some y → At w0 L B p (cs y) → G (.pointer (some p))) : Tk P S l ⟨dst, .indexAddr t x ix, ty, pos, aft, gd⟩ G := by
 subst hj
 obtain ⟨p, hr, ha⟩ := Zpo (P := P) (dst := dst) (ty := ty) (pos := pos) (aft := aft) (gd := gd) hs ht hk hx hi (by omega) (by omega)
 have hy : xs[j]? = some xs[j] := List.getElem?_eq_getElem h1
 rw [Int.toNat_natCast, Zhb hc xs j _ hy] at ha
 exact Tk.of (fun w' _ => hr w') (kk p _ hy ha)
end
theorem t_v {S : World → Prop} {G : Value → Prop} {o : Oper} {v : Value} (h : ∀ w, Qd P l o w v w) (hG : G v) : Tk P S l o G := Tk.of (fun w _ => h w) hG
theorem Xh {ws : List Nat} {w0 : World} {G : Value → Prop} {x : Operand} {t : TypeId} {p : Addr} {L B off : Nat} {cs : List Value} {v : Value} (ha : At w0 L B p cs) (hw : ∀ k ∈ ws, k < L ∨ B ≤ k) (ht : Yv P t = some false)
   (h : ev l x = some (.pointer (some (p.add off)))) (hv : cs[off]? = some v) (hG : G v) : Tk P (Ch ws w0) l ⟨dst, .load t x, ty, pos, aft, gd⟩ G :=
 Tk.of (fun _ c => Zk (ha.ch c hw) ht h hv) hG
theorem Yx {ws : List Nat} {w0 : World} {G : Value → Prop} {x : Operand} {t : TypeId} {p : Addr} {L B : Nat} {cs : List Value} {v : Value} (ha : At w0 L B p cs) (hw : ∀ k ∈ ws, k < L ∨ B ≤ k) (ht : Yv P t = some false)
   (h : ev l x = some (.pointer (some p))) (hv : cs[0]? = some v) (hG : G v) : Tk P (Ch ws w0) l ⟨dst, .load t x, ty, pos, aft, gd⟩ G :=
 Tk.of (fun _ c => Yr (ha.ch c hw) ht h hv) hG
theorem Zqm {ws : List Nat} {w0 : World} {G : Value → Prop} {x : Operand} {t : TypeId} {p : Addr} {L B off : Nat} {cs : List Value} (n : Nat) (ha : At w0 L B p cs) (hw : ∀ k ∈ ws, k < L ∨ B ≤ k) (ht : Yv P t = some true) (hz : Yg P t = some n)
   (hn : ((cs.drop off).take n).length = n) (h : ev l x = some (.pointer (some (p.add off)))) (hG : G (.agg ((cs.drop off).take n).toArray)) : Tk P (Ch ws w0) l ⟨dst, .load t x, ty, pos, aft, gd⟩ G :=
 Tk.of (fun _ c => Zll n (ha.ch c hw) ht hz hn h) hG
theorem Yq {ws : List Nat} {w0 : World} {G : Value → Prop} {x : Operand} {t : TypeId} {p : Addr} {L B : Nat} {cs : List Value} (ha : At w0 L B p cs) (hw : ∀ k ∈ ws, k < L ∨ B ≤ k) (ht : Yv P t = some true) (hz : Yg P t = some cs.length)
   (h : ev l x = some (.pointer (some p))) (hG : G (.agg cs.toArray)) : Tk P (Ch ws w0) l ⟨dst, .load t x, ty, pos, aft, gd⟩ G :=
 Tk.of (fun _ c => Zy (ha.ch c hw) ht hz h) hG
theorem Zt {t ty : Nat} {b : Nat} {t' : TypeId} {cs : List Value} {rs : List ResultVar} {vs : List Value} (hb : Blk w b t' cs) (hl : look l t = some (.pointer (some ⟨b, 0, none⟩))) (ht : Yv P ty = some true) (hz : Yg P ty = some cs.length)
 (h : Zgq P l w rs vs) : Zgq P l w (.cell t ty :: rs) (.agg cs.toArray :: vs) := ⟨⟨_, hl, Zlk ht hz hb.at_.2⟩, h⟩
def Zce (P : Program) (t : TypeId) (n : Nat) : Bool :=
 match P.underlying t with
 | some (.struct fs) => fs.size == n && !P.stoodInHeld t && !P.eqGuardType P.depth t && (List.range n).all fun i => match fs[i]? with
  | some f => f.name != "_" && f.offset == i && (match P.underlying f.type with | some (.int .i64) => true | _ => false)
  | none => false
 | _ => false
theorem Zlm {t : TypeId} {cs : Array Value} {i : Nat} {v : Value} (ht : P.underlying t = some (.int .i64)) (h : cs[i]? = some v) : (part t cs i).run P w = .ok v w := by
 simp [part, isAgg, run_underlying ht, h]
theorem Zcs (xs ys : List Int) (d : Nat) : ∀ (fs : List Field) (o : Nat), o + fs.length = xs.length → o + fs.length = ys.length → (∀ i f, fs[i]? = some f → f.name ≠ "_" ∧ f.offset = o + i ∧ P.underlying f.type = some (.int .i64)) →
   (Op.eqFields (d + 1) (xs.map (.int .i64)).toArray (ys.map (.int .i64)).toArray fs).run P w = .ok (decide (xs.drop o = ys.drop o)) w
 | [], o, h1, h2, _ => by
  have e1 : xs.drop o = [] := List.drop_eq_nil_of_le (by simp at h1; omega)
  have e2 : ys.drop o = [] := List.drop_eq_nil_of_le (by simp at h2; omega)
  simp [Op.eqFields, e1, e2]
 | f :: fs, o, h1, h2, h => by
  obtain ⟨hn, ho, ht⟩ := h 0 f rfl
  simp only [List.length_cons] at h1 h2
  have hx : o < xs.length := by omega
  have hy : o < ys.length := by omega
  have p1 : ((xs.map (Value.int .i64)).toArray)[f.offset]? = some (.int .i64 xs[o]) := by simp [ho, hx]
  have p2 : ((ys.map (Value.int .i64)).toArray)[f.offset]? = some (.int .i64 ys[o]) := by simp [ho, hy]
  have ih := Zcs xs ys d fs (o + 1) (by omega) (by omega) (fun i g hg => by
   obtain ⟨a, b, c⟩ := h (i + 1) g (by simpa using hg)
   exact ⟨a, by omega, c⟩)
  simp only [Op.eqFields, hn, ne_eq, not_false_iff, if_true, Sem.run_bind, Zlm ht p1, Zlm ht p2, Result.andThen_ok, run_equalIn_int w d f.type .i64 .i64 xs[o] ys[o] ht, Sem.run_ite, Sem.run_pure, ih]
  rw [List.drop_eq_getElem_cons hx, List.drop_eq_getElem_cons hy]
  simp only [List.cons.injEq]
  by_cases he : xs[o] = ys[o] <;> simp [he]
theorem Zja {t : TypeId} (xs ys : List Int) (h : Zce P t xs.length = true) (hl : ys.length = xs.length) :
   (Op.equalIn 10000 t (.agg (xs.map (.int .i64)).toArray) (.agg (ys.map (.int .i64)).toArray)).run P w = .ok (decide (xs = ys)) w ∧ P.eqGuardType P.depth t = false := by
 unfold Zce at h
 cases hu : P.underlying t with
 | none => simp [hu] at h
 | some dd =>
  cases dd with
  | struct fs =>
   simp only [hu, Bool.and_eq_true, Bool.not_eq_true', beq_iff_eq, List.all_eq_true, List.mem_range] at h
   obtain ⟨⟨⟨h1, h2⟩, h3⟩, h4⟩ := h
   have hf : P.fieldsOf t = fs := by simp [Program.fieldsOf, hu]
   rw [run_equalIn_struct w 9999 t _ _ (by rw [hf]; exact hu) h2, hf]
   refine ⟨?_, h3⟩
   have := Zcs (P := P) (w := w) xs ys 9998 fs.toList 0 (by simp [h1]) (by simp [h1, hl]) (fun i f hi => by
    have hlt : i < xs.length := by
     have := (List.getElem?_eq_some_iff.1 hi).1
     simp [h1] at this
     exact this
    have hi' : fs[i]? = some f := by simpa using hi
    have := h4 i hlt
    simp only [hi', Bool.and_eq_true, bne_iff_ne, beq_iff_eq] at this
    refine ⟨this.1.1, by omega, ?_⟩
    have h5 := this.2
    split at h5
    ·assumption
    cases h5)
   simpa using this
  | _ => simp [hu] at h
theorem Zkq {x y : Operand} {t yt : TypeId} (xs ys : List Int) (h : Zce P t xs.length = true) (hl : ys.length = xs.length) (hx : ev l x = some (.agg (xs.map (.int .i64)).toArray)) (hy : ev l y = some (.agg (ys.map (.int .i64)).toArray)) :
   Qd P l ⟨dst, .binOp .eql t x y yt, ty, pos, aft, gd⟩ w (.bool (decide (xs = ys))) w := fun ρ hρ => by
 obtain ⟨h1, h2⟩ := Zja (P := P) (w := w) xs ys h hl
 have hg := run_eqGuard_agg (P := P) w .eql t x y (xs.map (.int .i64)).toArray (ys.map (.int .i64)).toArray h2
 simp only [execOp, hρ _ _ hx, hρ _ _ hy, Sem.run_bind, hg, Result.andThen_ok, run_eql_struct, h1, Sem.run_pure]
theorem Zvx {x y : Operand} {t yt : TypeId} (xs ys : List Int) (h : Zce P t xs.length = true) (hl : ys.length = xs.length) (hx : ev l x = some (.agg (xs.map (.int .i64)).toArray)) (hy : ev l y = some (.agg (ys.map (.int .i64)).toArray)) :
   Qd P l ⟨dst, .binOp .neq t x y yt, ty, pos, aft, gd⟩ w (.bool (!decide (xs = ys))) w := fun ρ hρ => by
 obtain ⟨h1, h2⟩ := Zja (P := P) (w := w) xs ys h hl
 have hg := run_eqGuard_agg (P := P) w .neq t x y (xs.map (.int .i64)).toArray (ys.map (.int .i64)).toArray h2
 simp only [execOp, hρ _ _ hx, hρ _ _ hy, Sem.run_bind, hg, Result.andThen_ok, run_neq_struct, h1, Sem.run_pure]
end
end Go.KLib

namespace Go.KLib
structure Pair where
 f : Int
 t : Int
 deriving DecidableEq
def Pair.cs (p : Pair) : List Value := [.int .i64 p.f, .int .i64 p.t]
theorem Pair.len (p : Pair) : p.cs.length = 2 := rfl
structure Token where
 kind : Int
 letter : Int
 low : Int
 high : Int
 deriving DecidableEq
def Token.cs (p : Token) : List Value := [.int .i64 p.kind, .int .i64 p.letter, .int .i64 p.low, .int .i64 p.high]
theorem Token.len (p : Token) : p.cs.length = 4 := rfl
structure GEdge where
 id : Int
 f : Int
 t : Int
 label : Int
 deriving DecidableEq
def GEdge.cs (p : GEdge) : List Value := [.int .i64 p.id, .int .i64 p.f, .int .i64 p.t, .int .i64 p.label]
theorem GEdge.len (p : GEdge) : p.cs.length = 4 := rfl
def ics (n : Int) : List Value := [.int .i64 n]
theorem Xg (n : Int) : (ics n).length = 1 := rfl
def bcs (b : Bool) : List Value := [.bool b]
theorem Qg (b : Bool) : (bcs b).length = 1 := rfl
theorem Pair.inj {a b : Pair} (h : [a.f, a.t] = [b.f, b.t]) : a = b := by cases a; cases b; simpa using h
theorem Token.inj {a b : Token} (h : [a.kind, a.letter, a.low, a.high] = [b.kind, b.letter, b.low, b.high]) : a = b := by cases a; cases b; simpa using h
theorem GEdge.inj {a b : GEdge} (h : [a.id, a.f, a.t, a.label] = [b.id, b.f, b.t, b.label]) : a = b := by cases a; cases b; simpa using h
section
variable {α : Type} {cs : α → List Value} {e k n : Nat} {v : Value} {xs : List α} {w w' : World} {P : Program} {l : KL} {dst : Option Tmp} {ty : TypeId} {pos : String} {aft : Array Edge} {gd : Option (Nat × Bool)} {K : Value → World → Prop}
theorem Znn {cs : α → List Value} (hc : ∀ x, (cs x).length = k) : ∀ (xs : List α) (j : Nat) (y : α), j < xs.length → (xs.flatMap cs).take (j * k) ++ cs y ++ (xs.flatMap cs).drop (j * k + k) = (xs.set j y).flatMap cs
 | [], j, y, h => by simp at h
 | x :: xs, 0, y, _ => by
  simp only [List.flatMap_cons, Nat.zero_mul, List.take_zero, List.nil_append, Nat.zero_add, List.set_cons_zero]
  rw [← hc x, List.drop_left]
 | x :: xs, j + 1, y, h => by
  have ih := Znn hc xs j y (by simpa using h)
  simp only [List.flatMap_cons, List.set_cons_succ]
  rw [← ih, show (j + 1) * k = (cs x).length + j * k from by rw [hc x, Nat.succ_mul, Nat.add_comm], Nat.add_assoc, List.take_length_add_append, List.drop_length_add_append]
  simp [List.append_assoc]
theorem Zlo {z : Value} {z0 : α} (hz : z.cells.toList = cs z0) (hc : ∀ x, (cs x).length = k) (hk : 0 < k) (n : Nat) : (madeCells z.cells (n * k)).toList = (List.replicate n z0).flatMap cs := by
 have hs : z.cells.size = k := by rw [← Array.length_toList, hz, hc]
 induction n with
 | zero => simp [madeCells]
 | succ n ih =>
  rw [List.replicate_succ', List.flatMap_append, ← ih, Nat.succ_mul]
  unfold madeCells
  rw [Array.toList_map, Array.toList_range, List.range_add, List.map_append, Array.toList_map, Array.toList_range]
  congr 1
  simp only [List.flatMap_cons, List.flatMap_nil, List.append_nil, List.map_map]
  rw [← hz]
  apply List.ext_getElem?
  intro i
  by_cases hi : i < k
  ·have hi' : i < z.cells.size := by omega
   simp [hs, Nat.mul_add_mod_of_lt, Nat.add_mod, Nat.mod_eq_of_lt hi, hi, hi']
  simp [hs, hi]
theorem Zkr {t : TypeId} {ln : Operand} {by_ n : Nat} {z : Value} (z0 : α) (ht : elB P t = some e) (hk : Yg P e = some k) (hb : Zar P e = some by_) (hz : Xf P e = some z) (hc : ∀ x, (cs x).length = k) (hk0 : 0 < k) (hzc : z.cells.toList = cs z0)
   (hn : ev l ln = some (.int .i64 (n : Int))) (hbytes : by_ * n ≤ 140737488355328) (h63 : n ≤ 9223372036854775807)
   (kk : ∀ v w', Ol cs e k w' v (List.replicate n z0) → Lo w.heap.size v → Ch [] w w' → K v w') : Step P l ⟨dst, .makeSlice t ln ln, ty, pos, aft, gd⟩ w K := by
 obtain ⟨i, hi, h1, h2, h3⟩ := Zpc hk hb hz
 have hm : n ≤ maxLen := by simp only [maxLen]; omega
 obtain ⟨w', hr, ho, hg⟩ := run_make_full (P := P) w w.heap.size t e i z k (Zbs ht) hi h1 h2 .i64 .i64 n (by rw [h3]; omega) hm (Nat.le_refl _)
 refine Step.of (v := .slice (some ⟨w.heap.size, 0, none⟩) n n) (w' := w') (fun ρ hρ => ?_) (kk _ _ ?_ (fun g hg => by simp [bl, Value.ownBlock] at hg; omega) (Ch.of_grown hg))
 ·simp [execOp, hρ _ _ hn, hr]
 obtain ⟨hl, h⟩ := ho
 rw [Zlo hzc hc hk0 n] at hl h
 refine ⟨by rw [List.length_replicate]; exact hl, ?_⟩
 rw [List.length_replicate]
 rcases h with ⟨h, _⟩ | ⟨g, cap, cur, hv, _, hgg, hn', hm', hsz, htk⟩
 ·cases h
 exact .inr ⟨g, 0, cap, cur, hv, hgg, hn', hm', by omega, by simpa using htk⟩
theorem Qj {x ix : Operand} {t e' : TypeId} {j : Nat} {i : Int} {q : IntKind} (hs : Ol cs e' k w v xs) (ht : elB P t = some e) (hk : Yg P e = some k)
   (hx : ev l x = some v) (hi : ev l ix = some (.int q i)) (hj : i = (j : Int)) (h1 : j < xs.length)
   (kk : ∀ g off cap, v = .slice (some ⟨g, off, none⟩) xs.length cap → K (.pointer (some ⟨g, off + j * k, none⟩)) w) : Step P l ⟨dst, .indexAddr t x ix, ty, pos, aft, gd⟩ w K := by
 subst hj
 obtain ⟨g, off, cap, hv, hr⟩ := Zro (P := P) (dst := dst) (ty := ty) (pos := pos) (aft := aft) (gd := gd) hs ht hk hx hi (by omega) (by omega)
 exact Step.of (hr w) (kk g off cap hv)
theorem Qk {a x : Operand} {t : TypeId} {g off cap j : Nat} {u : Value} (y : α) (hs : Ol cs e k w v xs) (hv : v = .slice (some ⟨g, off, none⟩) xs.length cap) (hc : ∀ x, (cs x).length = k) (ht : Yg P t = some k)
   (ha : ev l a = some (.pointer (some ⟨g, off + j * k, none⟩))) (hx : ev l x = some u) (hu : u.cells.toList = cs y) (h1 : (cs y).all Value.oneCell' = true) (hj : j < xs.length)
   (kk : ∀ w', Ol cs e k w' v (xs.set j y) → Ch (bl v) w w' → K undef w') : Step P l ⟨dst, .store t a x, ty, pos, aft, gd⟩ w K := by
 obtain ⟨w', hr, ho, hch⟩ := Zrv (P := P) (dst := dst) (ty := ty) (pos := pos) (aft := aft) (gd := gd) hs hv (hc y) ht h1 ha ⟨u, hx, by rw [← hu]⟩ hj
 rw [Znn hc xs j y hj] at ho
 refine Step.ofU hr (kk w' ⟨by simpa using ho.1, by simpa using ho.2⟩ ?_)
 subst hv
 exact hch
theorem Zdx {xs : List α} {j : Nat} (h : j < xs.length) : ∃ y, xs[j]? = some y := ⟨_, List.getElem?_eq_getElem h⟩
end
theorem Zgk {α : Type} {xs ys : List α} {k : Nat} (h : xs.take k = ys.take k) {x y : α} (hx : xs[k]? = some x) (hy : ys[k]? = some y) (he : x = y) : xs.take (k + 1) = ys.take (k + 1) := by
 rw [List.take_add_one, List.take_add_one, hx, hy, h, he]
theorem Ziy {α : Type} {xs ys : List α} {k : Nat} (h : xs.take k = ys.take k) (h1 : xs.length ≤ k) (h2 : ys.length = xs.length) : xs = ys := by
 rwa [List.take_of_length_le h1, List.take_of_length_le (by omega)] at h
theorem Zkx {α : Type} {xs ys : List α} {k : Nat} {x y : α} (hx : xs[k]? = some x) (hy : ys[k]? = some y) (he : ¬ x = y) : ¬ xs = ys := by
 rintro rfl
 rw [hx] at hy
 injection hy with hy
 exact he hy
theorem Zjb {α : Type} (a : List α) (f : Nat → α) {k : Nat} (hk : k < a.length) : ((List.range k).map f ++ a.drop k).set k (f k) = (List.range (k + 1)).map f ++ a.drop (k + 1) := by
 rw [List.range_succ, List.map_append, List.set_append_right _ _ (by simp)]
 rw [List.drop_eq_getElem_cons hk]
 simp only [List.length_map, List.length_range, Nat.sub_self, List.set_cons_zero, List.map_cons, List.map_nil, List.append_assoc, List.singleton_append]
def Zkw (k : Int) (n : Nat) : List Pair := (List.range n).map fun (i : Nat) => ⟨k + 2 * i, k + 2 * i + 1⟩
def Zpg (k : Int) (n : Nat) : List Token := (List.range n).map fun (i : Nat) => ⟨k + 4 * i, k + 4 * i + 1, k + 4 * i + 2, k + 4 * i + 3⟩
def Zqf (k : Int) (n : Nat) : List GEdge := (List.range n).map fun (i : Nat) => ⟨k + 4 * i, k + 4 * i + 1, k + 4 * i + 2, k + 4 * i + 3⟩
def Zvp (k : Int) (n : Nat) : List Int := (List.range n).map fun (i : Nat) => k + i
@[simp] theorem mkPair_len (k : Int) (n : Nat) : (Zkw k n).length = n := by simp [Zkw]
@[simp] theorem mkToken_len (k : Int) (n : Nat) : (Zpg k n).length = n := by simp [Zpg]
@[simp] theorem mkGEdge_len (k : Int) (n : Nat) : (Zqf k n).length = n := by simp [Zqf]
@[simp] theorem mkInt_len (k : Int) (n : Nat) : (Zvp k n).length = n := by simp [Zvp]
theorem Zuz (a : List Pair) {i : Nat} (hi : i < a.length) {kk k : Int} (h : kk = k + 2 * i) : (Zkw k i ++ a.drop i).set i ⟨kk, kk + 1⟩ = Zkw k (i + 1) ++ a.drop (i + 1) := by
 subst h
 have h2 := Zjb a (fun (q : Nat) => (⟨k + 2 * q, k + 2 * q + 1⟩ : Pair)) hi
 unfold Zkw
 refine Eq.trans (congrArg _ ?_) h2
 simp only [Int.add_assoc]
 all_goals rfl
end Go.KLib

namespace Go.KLib
open Go.ChangeShapes Go.WideShapes Go.ChangeAt Go.RowKit Go.Deep Go.Joins
section
variable {H : Type} {enc : TypeId × Value → H} {P : Program} {w : World} {base : Nat} {spare : Nat → Bool} {held : Bool}
theorem Zuw {α : Type} {n : Nat} {Q : Nat → α → Prop} (h : ∀ i, i < n → ∃ x, Q i x) : ∃ xs : List α, xs.length = n ∧ ∀ i x, xs[i]? = some x → Q i x := by
 induction n with
 | zero => exact ⟨[], rfl, fun i x hx => by simp at hx⟩
 | succ n ih =>
  obtain ⟨xs, hl, hq⟩ := ih fun i hi => h i (by omega)
  obtain ⟨x, hx⟩ := h n (by omega)
  refine ⟨xs ++ [x], by simp [hl], fun i y hy => ?_⟩
  rcases Nat.lt_or_ge i xs.length with hi | hi
  ·exact hq i y (by rwa [List.getElem?_append_left hi] at hy)
  have hlt := (List.getElem?_eq_some_iff.1 hy).1
  simp at hlt
  have : i = n := by omega
  subst this
  rw [List.getElem?_append_right hi, hl, Nat.sub_self] at hy
  simp at hy
  subst hy
  exact hx
theorem Zun {α : Type} {cs : α → List Value} {k : Nat} {t e : TypeId} {fuel : Nat} {v : Value} {x : DataW H × List MemPlace} (ht : P.underlying t = some (.slice e)) (hk : P.cellsOf e = k) (hk0 : 0 < k) (hc : ∀ x, (cs x).length = k)
   (he : ∀ fuel vs y, vs.length = k → DataW.trod enc P w base spare held fuel e vs = some y → ∃ x : α, vs = cs x) (h : DataW.trod enc P w base spare held fuel t [v] = some x) : ∃ xs : List α, Ls cs k w 0 w.heap.size v xs := by
 rcases open_slice ht h with ⟨h0, _⟩ | ⟨a, len, cap, m, n, D, Pl, h0, _, hl, hm, hmm, _, hi⟩
 ·injection h0 with h0
  subst h0
  exact ⟨[], Ls.nil w _ _⟩
 injection h0 with h0
 subst h0
 have hlm : len ≤ m := by rw [hmm]; split <;> omega
 obtain ⟨xs, hxl, hx⟩ := Zuw (n := len) (Q := fun i (x : α) => ∀ j u, (cs x)[j]? = some u → w.cell? (a.add (i * k + j)) = some u) fun i hlt => by
  obtain ⟨cs', hcs, htr⟩ := hi i (by omega)
  obtain ⟨_, hcl, hat⟩ := World.cells?_some hcs
  rw [hk] at hcl hat
  obtain ⟨y, hy⟩ := he _ _ _ hcl htr
  refine ⟨y, fun j u hu => ?_⟩
  have hj : j < k := by have := (List.getElem?_eq_some_iff.1 hu).1; rw [hc] at this; exact this
  have h1 := hat j hj
  rw [hy, hu, Go.KLib.add_add] at h1
  exact h1
 refine ⟨xs, Sl.here (L := 0) (B := a.block + 1) ⟨flat_len hc xs, some a, cap, by rw [hxl], by omega, hm, fun _ => ⟨a, rfl, ⟨Nat.zero_le _, Nat.lt_succ_self _⟩, fun j u hu => ?_⟩⟩ hk0⟩
 have hjl : j < xs.length * k := by have := (List.getElem?_eq_some_iff.1 hu).1; rwa [flat_len hc] at this
 have hd : j / k < xs.length := Nat.div_lt_of_lt_mul (by rwa [Nat.mul_comm])
 have hg := Zhb hc xs (j / k) xs[j / k] (List.getElem?_eq_getElem hd)
 have h2 := hx (j / k) xs[j / k] (List.getElem?_eq_getElem hd) (j % k) u (by
  rw [← hg, List.getElem?_take, if_pos (Nat.mod_lt _ hk0), List.getElem?_drop, Nat.mul_comm, Nat.div_add_mod]
  exact hu)
 rwa [Nat.mul_comm, Nat.div_add_mod] at h2
theorem Zmo {r : Reach} {b0 : Nat} {t e : TypeId} {v : Value} {d : DataW H} {p : List MemPlace} (hs : P.underlying t = some (.slice e)) (hv : Value.okWide P w r b0 t v) (h : DataW.Trod enc P w base spare held t v d p) :
   ∃ fuel x, DataW.trod enc P w base spare held fuel t [v] = some x := by
 obtain ⟨a, len, cap, rfl⟩ := okWide_slice hs hv
 obtain ⟨fuel, hf⟩ := h
 exact ⟨fuel, _, hf⟩
theorem Zgh {W W' : World} (hl : laidOutB P = true) (hb : Ch [] W W') : ∀ (ts : List TypeId) (vs : List Value) (ds : List (DataW H)) (ps : List MemPlace), (∀ t ∈ ts, P.readableRec t = true ∧ t < P.types.size) →
   (∀ x ∈ ps, x.block < W.heap.size) → DataW.TrodAll enc P W 0 (fun _ => true) true ts vs ds ps → DataW.TrodAll enc P W' 0 (fun b => decide (b < W.heap.size)) true ts vs ds ps
 | [], [], [], ps, _, _, h => h
 | t :: ts, v :: vs, d :: ds, ps, hts, hps, h => by
  obtain ⟨p, q, h1, h2, rfl⟩ := h
  exact ⟨p, q, Below.trod hl (hts t (by simp)).1 (hts t (by simp)).2 h1 hb.below (fun x hx => hps x (by simp [hx])),
   Zgh hl hb ts vs ds q (fun t' ht' => hts t' (by simp [ht'])) (fun x hx => hps x (by simp [hx])) h2, rfl⟩
 | [], v :: vs, _, _, _, _, h => by simp [DataW.TrodAll] at h
 | [], [], d :: ds, _, _, _, h => by simp [DataW.TrodAll] at h
 | t :: ts, [], _, _, _, _, h => by simp [DataW.TrodAll] at h
 | t :: ts, v :: vs, [], _, _, _, h => by simp [DataW.TrodAll] at h
theorem Zrk {fn : Func} {s : ChangeSpec} {W W' : World} {args : Array Value} {ds : List (DataW H)} {ps : List MemPlace} {tb : TypeId} (hl : laidOutB P = true) (hts : fn.params.toList.all (fun t => P.readableRec t && decide (t < P.types.size)) = true)
   (hr : fn.resultTypes = #[tb]) (htb : P.underlying tb = some .bool) (hvars : s.vars = []) (hfn : s.fn H (ds ++ []) = { results := [.lit (.bool true)], args := ds })
   (hW : DataW.Whole enc P fn.params.toList s.vars false W args.toList ds [] ps) (hb : Ch [] W W') :
   s.post enc P fn false true false false W args (.bool true) W' := by
 have hW0 := hW
 obtain ⟨p, q, hA, hV, rfl, _, _⟩ := hW
 rw [hvars] at hV
 have hq : q = [] := hV
 subst hq
 have hlt : ∀ x ∈ p, x.block < W.heap.size := fun x hx => hW0.lt x (by simpa using hx)
 refine ⟨ds, [], _, [], p, [], hW0, ?_, ?_, ?_, hb.below.frame _, fun h => by cases h⟩
 ·rw [hfn, hr]
  exact trodAll_mk1 (shut_bool htb true)
 ·rw [hfn]
  refine Zgh hl hb _ _ _ _ (fun t ht => ?_) hlt hA
  have := List.all_eq_true.1 hts t ht
  simpa using this
 rw [hfn, hvars]
 exact rfl
end
end Go.KLib

namespace Go.KLib
def evp (l : KL) : List (Nat × Operand) → Option (List (Nat × Value))
 | [] => some []
 | p :: ps => match ev l p.2, evp l ps with
  | some v, some vs => some ((p.1, v) :: vs)
  | _, _ => none
theorem Zmc {l : KL} {ρ : Operand → Value} (hρ : ∀ x u, ev l x = some u → ρ x = u) : ∀ (ps : List (Nat × Operand)) (vs : List (Nat × Value)), evp l ps = some vs → ps.map (fun p => (p.1, ρ p.2)) = vs
 | [], vs, h => by simp [evp] at h; simp [h]
 | p :: ps, vs, h => by
  simp only [evp] at h
  cases h1 : ev l p.2 with
  | none => simp [h1] at h
  | some u =>
   cases h2 : evp l ps with
   | none => simp [h1, h2] at h
   | some us =>
    simp [h1, h2] at h
    rw [List.map_cons, hρ p.2 u h1, Zmc hρ ps us h2, h]
def Zlt (place : Nat → Option (Nat × Nat)) (cells : List Value) : List (Nat × Value) → Option (List Value)
 | [] => some cells
 | p :: rest => match place p.1 with
  | none => none
  | some q => bif Nat.beq p.2.cells.size q.2 && Nat.ble (q.1 + q.2) cells.length then Zlt place (cells.take q.1 ++ p.2.cells.toList ++ cells.drop (q.1 + q.2)) rest else none
theorem Zqo (vs : List Value) : ∀ (o i : Nat) (cells : List Value), o + i + vs.length ≤ cells.length →
   ((vs.zipIdx i).foldl (fun (cs : Array Value) (p : Value × Nat) => cs.setIfInBounds (o + p.2) p.1) cells.toArray) = (cells.take (o + i) ++ vs ++ cells.drop (o + i + vs.length)).toArray := by
 induction vs with
 | nil => intro o i cells _; simp
 | cons v vs ih =>
  intro o i cells h
  simp only [List.length_cons] at h
  rw [List.zipIdx_cons, List.foldl_cons]
  have e : (cells.toArray.setIfInBounds (o + i) v) = (cells.set (o + i) v).toArray := by simp
  rw [e, ih o (i + 1) (cells.set (o + i) v) (by simp; omega)]
  congr 1
  have hlt : o + i < cells.length := by omega
  apply List.ext_getElem?
  intro q
  simp only [List.getElem?_append, List.getElem?_take, List.getElem?_drop, List.getElem?_set, List.length_append, List.length_take, List.length_set, List.length_cons]
  rcases Nat.lt_trichotomy q (o + i) with h1 | h1 | h1
  ·simp [show q < min (o + (i + 1)) cells.length by omega, show q < min (o + i) cells.length by omega, show q < o + (i + 1) by omega, show ¬ o + i = q by omega, h1, show q < min (o + (i + 1)) cells.length + vs.length by omega, show q < min (o + i) cells.length + (vs.length + 1) by omega]
  ·subst h1
   simp [show o + i < min (o + (i + 1)) cells.length by omega, show o + i < o + (i + 1) by omega, hlt, show o + i < min (o + (i + 1)) cells.length + vs.length by omega, show min (o + i) cells.length = o + i by omega]
  have e1 : min (o + (i + 1)) cells.length = o + i + 1 := by omega
  have e2 : min (o + i) cells.length = o + i := by omega
  rw [e1, e2]
  by_cases h2 : q < o + i + 1 + vs.length
  ·rw [if_pos h2, if_neg (by omega), if_pos (by omega), if_neg (by omega)]
   rw [show q - (o + i) = (q - (o + i + 1)) + 1 from by omega, List.getElem?_cons_succ]
  rw [if_neg h2, if_neg (by omega), if_neg (by omega)]
  congr 1
  omega
theorem Zfr (place : Nat → Option (Nat × Nat)) : ∀ (parts : List (Nat × Value)) (cells cells' : List Value), Zlt place cells parts = some cells' → Instr.fill place cells.toArray parts = some cells'.toArray
 | [], cells, cells', h => by simp [Zlt] at h; simp [Instr.fill, h]
 | p :: rest, cells, cells', h => by
  obtain ⟨i, v⟩ := p
  simp only [Zlt] at h
  cases hp : place i with
  | none => simp [hp] at h
  | some q =>
   obtain ⟨off, size⟩ := q
   simp only [hp] at h
   cases hc : (Nat.beq v.cells.size size && Nat.ble (off + size) cells.length) with
   | false => simp [hc] at h
   | true =>
    simp only [hc, cond_true] at h
    simp only [Bool.and_eq_true] at hc
    have h1 : v.cells.size = size := Nat.eq_of_beq_eq_true hc.1
    have h2 : off + size ≤ cells.length := Nat.le_of_ble_eq_true hc.2
    have ih := Zfr place rest _ _ h
    simp only [Instr.fill, hp]
    rw [if_neg (by simp [h1, h2])]
    have hf := Zqo v.cells.toList off 0 cells (by rw [Array.length_toList, h1]; omega)
    simp only [Nat.add_zero, Array.length_toList, h1] at hf
    rw [← ih, ← hf]
    congr 1
    rw [← Array.foldl_toList, Array.toList_zipIdx]
def Xz (P : Program) (t : TypeId) : Option (List (Nat × Nat)) :=
 match P.underlying t with
 | some (.struct fs) => fs.toList.mapM fun f => (Yg P f.type).map fun s => (f.offset, s)
 | _ => none
section
variable {P : Program} {w : World} {l : KL} {dst : Option Tmp} {ty : TypeId} {pos : String} {aft : Array Go.Edge} {gd : Option (Nat × Bool)} {K : Value → World → Prop}
theorem Zoj {fs : List Field} {pl : List (Nat × Nat)} (h : fs.mapM (fun f => (Yg P f.type).map fun s => (f.offset, s)) = some pl) :
   (fs.mapM (m := Sem) fun f => do pure (f.offset, ← sizeOf f.type)).run P w = .ok pl w := by
 induction fs generalizing pl with
 | nil => simp at h; simp [h]
 | cons f fs ih =>
  simp only [List.mapM_cons] at h
  cases hs : Yg P f.type with
  | none => simp [hs] at h
  | some s =>
   cases hr : fs.mapM (fun f => (Yg P f.type).map fun s => (f.offset, s)) with
   | none => simp [hs, hr] at h
   | some rs =>
    simp [hs, hr] at h
    simp only [List.mapM_cons, Sem.run_bind, Zau hs, Result.andThen_ok, Sem.run_pure, ih hr, h]
theorem Yn {t : TypeId} {parts : List (Nat × Operand)} {vs : List (Nat × Value)} {pl : List (Nat × Nat)} {z : Value} {cells : List Value} (hz : Xf P t = some z) (hp : Xz P t = some pl) (hv : evp l parts = some vs)
   (hf : Zlt (fun (i : Nat) => pl[i]?) z.cells.toList vs = some cells) : Qd P l ⟨dst, .build t parts.toArray, ty, pos, aft, gd⟩ w (.agg cells.toArray) w := fun ρ hρ => by
 unfold Xz at hp
 cases hu : P.underlying t with
 | none => simp [hu] at hp
 | some d =>
  cases d with
  | struct fs =>
   simp only [hu] at hp
   have h1 := Zmc hρ parts vs hv
   have h2 : (fs.mapM (m := Sem) fun f => do pure (f.offset, ← sizeOf f.type)).run P w = .ok pl.toArray w := by
    rw [← Array.toArray_toList (xs := fs), List.mapM_toArray]
    simp only [Sem.run_map, Zoj hp, Result.andThen_ok]
   have h3 := Zfr (fun (i : Nat) => pl[i]?) vs z.cells.toList cells hf
   have h4 : (parts.toArray.map fun p => (p.1, ρ p.2)) = vs.toArray := by rw [List.map_toArray, h1]
   have h5 : (fun (i : Nat) => pl.toArray[i]?) = fun (i : Nat) => pl[i]? := by funext i; simp
   simp only [Array.toArray_toList] at h3
   simp only [execOp, h4, Instr.build, Sem.run_bind, Zhw hz, Result.andThen_ok, run_underlying hu, h2, h5, h3, Sem.run_pure]
  | _ => simp [hu] at hp
variable {α : Type} {cs : α → List Value} {e k : Nat}
theorem Ym {t : TypeId} {n : Nat} {parts : List (Nat × Operand)} {vs : List (Nat × Value)} {z : Value} (z0 : α) (ys : List α) (ht : elB P t = some e) (hk : Yg P e = some k) (hz : Xf P e = some z) (hc : ∀ x, (cs x).length = k) (hk0 : 0 < k) (hzc : z.cells.toList = cs z0)
   (hv : evp l parts = some vs) (hn : ys.length = n) (hp : 0 < n) (hn0 : n * k ≤ 16777216) (hf : Zlt (fun i => some (i * k, k)) ((List.replicate n z0).flatMap cs) vs = some (ys.flatMap cs))
   (kk : ∀ v w', Ol cs e k w' v ys → Lo w.heap.size v → Ch [] w w' → K v w') : Step P l ⟨dst, .buildSlice t n parts.toArray, ty, pos, aft, gd⟩ w K := by
 have hpk : 0 < n * k := Nat.mul_pos hp hk0
 have h0 : (Array.range (n * k)).map (z.cells[· % z.cells.size]!) = ((List.replicate n z0).flatMap cs).toArray := by
  have := Zlo hzc hc hk0 n
  rw [← this]
  unfold madeCells
  rw [Array.toArray_toList]
 have h3 := Zfr (fun i => some (i * k, k)) vs _ _ hf
 refine Step.of (v := .slice (some ⟨w.heap.size, 0, none⟩) n n) (w' := w.alloc (.cells (ys.flatMap cs).toArray e)) (fun ρ hρ => ?_) (kk _ _ ?_ (fun g hg => by simp [bl, Value.ownBlock] at hg; omega) (Ch.alloc w _))
 ·have h1 := Zmc hρ parts vs hv
  have h4 : (parts.toArray.map fun p => (p.1, ρ p.2)) = vs.toArray := by rw [List.map_toArray, h1]
  have hlim : ¬ (n * k > 2 ^ 24) := by omega
  have hne : ¬ (n * k = 0) := by omega
  simp only [execOp, h4, Instr.buildSlice, Sem.run_bind, run_underlying (Zbs ht), Result.andThen_ok, Zau hk, hlim, if_false, hne, Zhw hz, Sem.run_pure, h0, h3]
  simp [newRow]
 have hm : n ≤ maxLen := by
  have : n ≤ n * k := Nat.le_mul_of_pos_right _ hk0
  simp only [maxLen]; omega
 have := Ow.made w e k n (ys.flatMap cs).toArray n (Nat.le_refl _) hm (by simp [flat_len hc, hn])
 have hl : (ys.flatMap cs).length = n * k := by rw [flat_len hc, hn]
 rw [List.toList_toArray, List.take_of_length_le (by omega)] at this
 subst hn
 exact this
theorem Zab {t : TypeId} (cs : α → List Value) (ht : elB P t = some e) (hk : Yg P e = some k)
   (kk : ∀ v w', Ol cs e k w' v ([] : List α) → Lo w.heap.size v → Ch [] w w' → K v w') : Step P l ⟨dst, .buildSlice t 0 #[], ty, pos, aft, gd⟩ w K := by
 have e0 : Array.range 0 = #[] := rfl
 refine Step.of (v := .slice (some ⟨w.heap.size, 0, none⟩) 0 0) (w' := w.alloc (.cells #[] e)) (fun ρ _ => ?_) (kk _ _ ?_ (fun g hg => by simp [bl, Value.ownBlock] at hg; omega) (Ch.alloc w _))
 ·simp [execOp, Instr.buildSlice, run_underlying (Zbs ht), Zau hk, Instr.fill, newRow, e0]
 have h := Ow.made w e k 0 #[] 0 (Nat.le_refl _) (Nat.zero_le _) (by simp)
 simp only [Nat.zero_mul, List.take_zero] at h
 exact h
end
end Go.KLib

namespace Go.KLib
noncomputable def tt (p : Prop) : Bool := @decide p (Classical.propDecidable p)
theorem Zeb {p : Prop} : tt p = true ↔ p := by unfold tt; exact @decide_eq_true_iff p (Classical.propDecidable p)
theorem Zbl {p : Prop} (h : p) : true = tt p := (Zeb.2 h).symm
theorem Xp {p : Prop} (h : ¬ p) : false = tt p := by
 cases e : tt p
 ·rfl
 exact absurd (Zeb.1 e) h
theorem Zgn {p q : Prop} (h : p ↔ q) : tt p = tt q := by
 cases e : tt q
 ·exact (Xp (fun hp => by rw [Zeb.2 (h.1 hp)] at e; cases e)).symm
 exact Zeb.2 (h.2 (Zeb.1 e))
theorem Zhl {p : Prop} {_ : Decidable p} : decide p = tt p := by
 by_cases h : p
 ·rw [← Zbl h]; exact decide_eq_true h
 rw [← Xp h]; exact decide_eq_false h
theorem bt_t {p : Prop} (h : tt p = true) : p := Zeb.1 h
theorem bf_t {p : Prop} (h : tt p = false) : ¬ p := fun hp => by rw [Zeb.2 hp] at h; cases h
def Zvi (a b : Pair) : Prop := a.f < b.f ∨ (a.f = b.f ∧ a.t < b.t)
def iand (x y : Int) : Int := IntKind.i64.wrap (BitVec.ofInt IntKind.i64.bits x &&& BitVec.ofInt IntKind.i64.bits y).toNat
def ior (x y : Int) : Int := IntKind.i64.wrap (BitVec.ofInt IntKind.i64.bits x ||| BitVec.ofInt IntKind.i64.bits y).toNat
def ixor (x y : Int) : Int := IntKind.i64.wrap (BitVec.ofInt IntKind.i64.bits x ^^^ BitVec.ofInt IntKind.i64.bits y).toNat
def ishl (x y : Int) : Int := IntKind.i64.wrap (x * 2 ^ (min y.toNat IntKind.i64.bits))
def ishr (x y : Int) : Int := x.fdiv (2 ^ (min y.toNat IntKind.i64.bits))
def w64 (x : Int) : Int := IntKind.i64.wrap x
section
variable {P : Program} {w : World} {l : KL} {dst : Option Tmp} {ty : TypeId} {pos : String} {aft : Array Go.Edge} {gd : Option (Nat × Bool)} {x y : Operand} {xt yt : TypeId} {a b : Int} {k : IntKind}
theorem Zeg (hx : ev l x = some (.int .i64 a)) (hy : ev l y = some (.int .i64 b)) : Qd P l ⟨dst, .binOp .and xt x y yt, ty, pos, aft, gd⟩ w (.int .i64 (iand a b)) w := fun ρ hρ => by
 simp [execOp, hρ _ _ hx, hρ _ _ hy, eqGuard, binOp, Op.intBits, iand]
theorem r_or (hx : ev l x = some (.int .i64 a)) (hy : ev l y = some (.int .i64 b)) : Qd P l ⟨dst, .binOp .or xt x y yt, ty, pos, aft, gd⟩ w (.int .i64 (ior a b)) w := fun ρ hρ => by
 simp [execOp, hρ _ _ hx, hρ _ _ hy, eqGuard, binOp, Op.intBits, ior]
theorem Zwr (hx : ev l x = some (.int .i64 a)) (hy : ev l y = some (.int .i64 b)) : Qd P l ⟨dst, .binOp .xor xt x y yt, ty, pos, aft, gd⟩ w (.int .i64 (ixor a b)) w := fun ρ hρ => by
 simp [execOp, hρ _ _ hx, hρ _ _ hy, eqGuard, binOp, Op.intBits, ixor]
theorem Zjf (h : 0 ≤ b) (hx : ev l x = some (.int .i64 a)) (hy : ev l y = some (.int k b)) : Qd P l ⟨dst, .binOp .shl xt x y yt, ty, pos, aft, gd⟩ w (.int .i64 (ishl a b)) w := fun ρ hρ => by
 have hn : ¬ b < 0 := by omega
 simp [execOp, hρ _ _ hx, hρ _ _ hy, eqGuard, binOp, Op.shift, hn, ishl]
theorem Zgp (h : 0 ≤ b) (hx : ev l x = some (.int .i64 a)) (hy : ev l y = some (.int k b)) : Qd P l ⟨dst, .binOp .shr xt x y yt, ty, pos, aft, gd⟩ w (.int .i64 (ishr a b)) w := fun ρ hρ => by
 have hn : ¬ b < 0 := by omega
 simp [execOp, hρ _ _ hx, hρ _ _ hy, eqGuard, binOp, Op.shift, hn, ishr]
theorem Zpm (hx : ev l x = some (.int .i64 a)) (hy : ev l y = some (.int .i64 b)) : Qd P l ⟨dst, .binOp .sub xt x y yt, ty, pos, aft, gd⟩ w (.int .i64 (w64 (a - b))) w := Ztb hx hy
theorem Zju (hx : ev l x = some (.int .i64 a)) (hy : ev l y = some (.int .i64 b)) : Qd P l ⟨dst, .binOp .add xt x y yt, ty, pos, aft, gd⟩ w (.int .i64 (w64 (a + b))) w := Ztd hx hy
end
def isL (x : Int) : Prop := 0 ≤ x ∧ x ≤ 8
def inM (n : Int) (x : Int) : Prop := 0 ≤ x ∧ x ≤ w64 (ishl 1 n - 1)
def PosP (L F : List Int) (n : Int) (k : Nat) : Prop := (∀ i x, i < k → L[i]? = some x → isL x) ∧ (∀ i x, i < k → F[i]? = some x → inM n x)
def Zcf (L : List Int) (a b : Int) (F : List Int) : Prop := L.length ≤ 20 ∧ F.length = L.length ∧ inM L.length a ∧ inM L.length b ∧ PosP L F L.length L.length
theorem Zsi (L F : List Int) (n : Int) : PosP L F n 0 := ⟨fun _ _ h => absurd h (by omega), fun _ _ h => absurd h (by omega)⟩
theorem Zsd {L F : List Int} {n : Int} {k : Nat} {y z : Int} (h : PosP L F n k) (hy : L[k]? = some y) (hz : F[k]? = some z) (h1 : isL y) (h2 : inM n z) : PosP L F n (k + 1) := by
 refine ⟨fun i x hi hx => ?_, fun i x hi hx => ?_⟩
 ·by_cases e : i = k
  ·subst e; rw [hy] at hx; cases hx; exact h1
  exact h.1 i x (by omega) hx
 by_cases e : i = k
 ·subst e; rw [hz] at hx; cases hx; exact h2
 exact h.2 i x (by omega) hx
theorem Zfo {L F : List Int} {n : Int} {k : Nat} (h : PosP L F n k) (h1 : L.length ≤ k) : PosP L F n L.length := ⟨fun i x hi => h.1 i x (by omega), fun i x hi => h.2 i x (by omega)⟩
theorem Znv {L F : List Int} {a b : Int} (e : Zcf L a b F) {k : Nat} {y : Int} (hy : L[k]? = some y) : isL y := e.2.2.2.2.1 k y (List.getElem?_eq_some_iff.1 hy).1 hy
theorem Zob {L F : List Int} {a b : Int} (e : Zcf L a b F) {k : Nat} {y : Int} (hy : F[k]? = some y) : inM L.length y := e.2.2.2.2.2 k y (by have := (List.getElem?_eq_some_iff.1 hy).1; rw [e.2.1] at this; exact this) hy
def accB (last : Int) (nl : Bool) (set : Int) : Bool := (decide (iand set 1 = 1) && nl) || !decide (iand (ishr set 1) last = 0)
def nxt (F : List Int) (set m0 : Int) : Nat → Int
 | 0 => m0
 | k + 1 => if iand (ishr set (k + 1)) 1 = 1 then ior (nxt F set m0 k) (F.getD k 0) else nxt F set m0 k
def outP (L : List Int) (nx letter : Int) : Nat → Int
 | 0 => 0
 | k + 1 => if L.getD k 0 = letter ∧ iand (ishr nx k) 1 = 1 then ior (outP L nx letter k) (ishl 1 (k + 1)) else outP L nx letter k
theorem Zqw {F : List Int} {set m0 m y : Int} {k : Nat} (h : iand (ishr set (k + 1)) 1 = 1) (hm : m = nxt F set m0 k) (hy : F[k]? = some y) : ior m y = nxt F set m0 (k + 1) := by
 rw [nxt, if_pos h, ← hm, List.getD_eq_getElem?_getD, hy]; rfl
theorem Zre {F : List Int} {set m0 m : Int} {k : Nat} (h : ¬ iand (ishr set (k + 1)) 1 = 1) (hm : m = nxt F set m0 k) : m = nxt F set m0 (k + 1) := by
 rw [nxt, if_neg h]; exact hm
theorem Zoa {L : List Int} {nx letter o y : Int} {k : Nat} (hy : L[k]? = some y) (h1 : y = letter) (h2 : iand (ishr nx k) 1 = 1) (ho : o = outP L nx letter k) : ior o (ishl 1 (k + 1)) = outP L nx letter (k + 1) := by
 rw [outP, if_pos ⟨by rw [List.getD_eq_getElem?_getD, hy]; exact h1, h2⟩, ho]
theorem Ziw {L : List Int} {nx letter o : Int} {k : Nat} (h2 : ¬ iand (ishr nx k) 1 = 1) (ho : o = outP L nx letter k) : o = outP L nx letter (k + 1) := by
 rw [outP, if_neg (fun e => h2 e.2)]; exact ho
theorem Zix {L : List Int} {nx letter o y : Int} {k : Nat} (hy : L[k]? = some y) (h1 : ¬ y = letter) (ho : o = outP L nx letter k) : o = outP L nx letter (k + 1) := by
 rw [outP, if_neg (fun e => h1 (by have := e.1; rw [List.getD_eq_getElem?_getD, hy] at this; exact this))]; exact ho
def Zbx (L : List Int) (first : Int) (F : List Int) (set letter : Int) : Int := outP L (nxt F set (if iand set 1 = 1 then first else 0) L.length) letter L.length
noncomputable def Zec (L : List Int) (a b : Int) (F : List Int) (set letter : Int) : Int := bif tt (Zcf L a b F ∧ inM (L.length + 1) set) then Zbx L a F set letter else 0
theorem Zlj {L F : List Int} {a b set letter : Int} (h : ¬ (Zcf L a b F ∧ inM (L.length + 1) set)) : 0 = Zec L a b F set letter := by
 unfold Zec; rw [← Xp h]; rfl
theorem Zfq {L F : List Int} {a b set letter : Int} (h : Zcf L a b F ∧ inM (L.length + 1) set) : Zbx L a F set letter = Zec L a b F set letter := by
 unfold Zec; rw [← Zbl h]; rfl
end Go.KLib

namespace Go.KLib
def WdP (l : List Int) (k : Nat) : Prop := ∀ i x, i < k → l[i]? = some x → isL x
def IsWd (l : List Int) : Prop := WdP l l.length ∧ l.length ≤ 8
theorem Zoy (l : List Int) : WdP l 0 := fun _ _ h => absurd h (by omega)
theorem Zpe {l : List Int} {k : Nat} {y : Int} (h : WdP l k) (hy : l[k]? = some y) (h1 : isL y) : WdP l (k + 1) := fun i x hi hx => by
 by_cases e : i = k
 ·subst e; rw [hy] at hx; cases hx; exact h1
 exact h i x (by omega) hx
theorem Zmv {l : List Int} {k : Nat} (h : WdP l k) (h1 : l.length ≤ k) : WdP l l.length := fun i x hi => h i x (by omega)
theorem Zmt {l : List Int} (e : IsWd l) {k : Nat} {y : Int} (hy : l[k]? = some y) : isL y := e.1 k y (List.getElem?_eq_some_iff.1 hy).1 hy
def runP (L : List Int) (a : Int) (F w : List Int) : Nat → Int
 | 0 => 1
 | k + 1 => Zbx L a F (runP L a F w k) (w.getD k 0)
theorem Znm {L F w : List Int} {a s y : Int} {k : Nat} (h : s = runP L a F w k) (hy : w[k]? = some y) : Zbx L a F s y = runP L a F w (k + 1) := by
 rw [runP, List.getD_eq_getElem?_getD, hy, h]; rfl
end Go.KLib

namespace Go.KLib
section
variable {P : Program} {w : World}
theorem Zel {t ty e : TypeId} {i : TypeInfo} (ht : P.underlying t = some (.slice e)) (hi : P.info? e = some i)
   {g off n cap : Nat} {cur : Array Value} (hg : w.heap[g]? = some (.cells cur e (0, 0)))
   {a : Addr} {m c : Nat} {news : List Value} (hl : news.length = m * i.size) (hnews : ∀ j u, news[j]? = some u → w.cell? (a.add j) = some u) (h1 : ∀ u ∈ news, u.oneCell' = true)
   (hroom : n + m ≤ cap) (hfit : off + n * i.size + news.length ≤ cur.size) :
   (Builtin.append_ #[t, t] ty #[.slice (some ⟨g, off, none⟩) n cap, .slice (some a) m c]).run P w =
     .ok (.slice (some ⟨g, off, none⟩) (n + m) cap) (w.setRow g (cur.toList.take (off + n * i.size) ++ news ++ cur.toList.drop (off + n * i.size + news.length)).toArray) := by
 have hf := run_firstCells_some (P := P) w i.size m a m c news hl hnews
 have hst := run_storeCells_at P g (off + n * i.size) e news 0 cur w hg (by simpa using hfit) h1
 simp only [Nat.add_zero] at hst
 simp [Builtin.append_, run_underlying ht, sizeOf, typeInfo, hi, Builtin.lenOf, hroom, hf, Addr.add_lit, hst]
theorem Zig {t ty e : TypeId} {i : TypeInfo} (ht : P.underlying t = some (.slice e)) (hi : P.info? e = some i)
   {k n : Nat} {v : Value} {xs : List Value} {e' : TypeId} (ho : Ow w e' k v n xs) (c : Nat) : (Builtin.append_ #[t, t] ty #[v, .slice none 0 c]).run P w = .ok v w := by
 rcases ho.2 with ⟨rfl, rfl⟩ | ⟨g, off, cap, cur, rfl, _, hnc, _⟩
 ·simp [Builtin.append_, run_underlying ht, sizeOf, typeInfo, hi, Builtin.lenOf, Builtin.firstCells]
 simp [Builtin.append_, run_underlying ht, sizeOf, typeInfo, hi, Builtin.lenOf, Builtin.firstCells, hnc, storeCells]
theorem Ow.append {t ty e : TypeId} {k by_ n m L B : Nat} {z v u : Value} {xs ys : List Value} (ht : elB P t = some e) (hk : Yg P e = some k) (hb : Zar P e = some by_) (hz : Xf P e = some z)
    (hzs : z.cells.size = k) (hk0 : 0 < k) (ho : Ow w e k v n xs) (hs : Sl w L B k u m ys) (h1 : ∀ y ∈ ys, y.oneCell' = true) (h63 : n + m ≤ 9223372036854775807) (hbytes : (n + m) * by_ ≤ 140737488355328) :
    ∃ v' w', (Builtin.append_ #[t, t] ty #[v, u]).run P w = .ok v' w' ∧ Ow w' e k v' (n + m) (xs ++ ys) ∧ Ch (bl v) w w' ∧ (bl v' = bl v ∨ bl v' = [w.heap.size]) := by
  obtain ⟨i, hi, hiz, his, hib⟩ := Zpc hk hb hz
  have hel := Zbs ht
  obtain ⟨hyl, A, c, rfl, hmc, hcm, hA⟩ := hs
  have hmx : n + m ≤ maxLen := by simp only [maxLen]; omega
  have hlen : (xs ++ ys).length = (n + m) * k := by rw [List.length_append, ho.1, hyl, Nat.add_mul]
  rcases A with _ | ad
  · have hm : m = 0 := by
      rcases Nat.eq_zero_or_pos m with h | h
      · exact h
      · obtain ⟨ad, h2, _⟩ := hA h; cases h2
    subst hm
    have hys : ys = [] := List.eq_nil_of_length_eq_zero (by simpa using hyl)
    subst hys
    exact ⟨v, w, Zig hel hi ho c, by simpa using ho, Ch.refl _ _, .inl rfl⟩
  · have hcells : ∀ j u, ys[j]? = some u → w.cell? (ad.add j) = some u := by
      intro j u hu
      rcases Nat.eq_zero_or_pos m with h | h
      · subst h
        have hys : ys = [] := List.eq_nil_of_length_eq_zero (by simpa using hyl)
        subst hys; simp at hu
      · obtain ⟨ad', h2, ha⟩ := hA h
        injection h2 with h2; subst h2
        exact ha.cell j hu
    have grown : ∀ (old : Nat), old < n + m → ∃ cap,
        Ow (w.drew.alloc (.cells (xs.toArray ++ ys.toArray ++ Builtin.zeroCells z.cells (grownCap w (n + m) old e - (n + m))) e)) e k (.slice (some ⟨w.heap.size, 0, none⟩) (n + m) cap) (n + m) (xs ++ ys) ∧ cap = grownCap w (n + m) old e := by
      intro old hold
      have hge := grownCap_ge w (n + m) old e
      have hcm' : grownCap w (n + m) old e ≤ maxLen := grownCap_le_maxLen w (n + m) old e hmx
      refine ⟨_, ⟨hlen, .inr ⟨w.heap.size, 0, _, _, rfl, heap_alloc_new w.drew _, hge, hcm', ?_, ?_⟩⟩, rfl⟩
      · simp only [Array.size_append, List.size_toArray, size_zeroCells, hzs, ho.1, hyl, ← Nat.add_mul]
        refine Nat.le_of_eq ?_
        rw [Nat.zero_add]; congr 1; omega
      · simp only [Array.toList_append, List.append_assoc, List.drop_zero]
        rw [← List.append_assoc, ← hlen]
        exact List.take_left
    have grow : ∀ o, Ch (bl v) w (w.drew.alloc o) := fun o => ⟨rfl, rfl, rfl, by simp, fun j hj _ => heap_alloc_old w.drew _ hj⟩
    subst his hib
    rcases ho.2 with ⟨rfl, rfl⟩ | ⟨g, off, cap, cur, rfl, hg, hnc, hcp, hcs, htake⟩
    · have hx : xs = [] := List.eq_nil_of_length_eq_zero (by simpa using ho.1)
      subst hx
      by_cases hm : m = 0
      · subst hm
        have hys : ys = [] := List.eq_nil_of_length_eq_zero (by simpa using hyl)
        subst hys
        refine ⟨.slice none 0 0, w, ?_, Ow.nil w e _, Ch.refl _ _, .inl rfl⟩
        simp [Builtin.append_, run_underlying hel, sizeOf, typeInfo, hi, Builtin.lenOf, Builtin.firstCells, loadCells, loadCellsFrom]
      · have hr := run_append_nil (P := P) w t ty e i z hel hi hiz ad m c ys hyl hcells (by omega) (by omega) (by simp only [Nat.zero_add] at hbytes; omega)
        obtain ⟨cp, h2, rfl⟩ := grown 0 (by omega)
        simp only [Nat.zero_add, List.nil_append, Array.empty_append] at h2 ⊢
        exact ⟨_, _, hr, h2, grow _, .inr rfl⟩
    · by_cases hroom : n + m ≤ cap
      · have hfit : off + n * i.size + ys.length ≤ cur.size := by
          have := Nat.mul_le_mul_right i.size hroom
          rw [hyl]; rw [Nat.add_mul] at this; omega
        have hr := Zel (P := P) (ty := ty) (c := c) hel hi hg hyl hcells h1 hroom hfit
        refine ⟨_, _, hr, ⟨hlen, .inr ⟨g, off, cap, _, rfl, setRow_heap w g cur _ e _ hg, hroom, hcp, ?_, ?_⟩⟩, ⟨rfl, rfl, rfl, by simp [World.setRow], fun j _ hj => setRow_other w g j _ (fun e => hj (by simp [bl, Value.ownBlock, e]))⟩, .inl rfl⟩
        · simp only [List.size_toArray, List.length_append, List.length_take, List.length_drop, Array.length_toList]
          omega
        · have hto : (cur.toList.take (off + n * i.size)).drop off = xs := by
            rw [← htake, List.drop_take]; congr 1; omega
          have hol : off ≤ (cur.toList.take (off + n * i.size)).length := by rw [List.length_take, Array.length_toList]; omega
          show ((((cur.toList.take (off + n * i.size)) ++ ys ++ _).toArray).toList.drop off).take _ = _
          rw [show (∀ l : List Value, l.toArray.toList = l) from fun _ => rfl, List.append_assoc, List.drop_append_of_le_length hol, hto, ← List.append_assoc, ← hlen]
          exact List.take_left
      · have holds : ∀ j u, xs[j]? = some u → w.cell? ((⟨g, off, none⟩ : Addr).add j) = some u := fun j u hu => by rw [add_lit]; exact ho.cells rfl j u hu
        have hr := run_append_grow (P := P) w t ty e i z hel hi hiz ⟨g, off, none⟩ n cap xs ho.1 holds ad m c ys hyl hcells (by omega) (by omega) (growslice_fits (by omega) hbytes)
        obtain ⟨cp, h2, rfl⟩ := grown cap (by omega)
        exact ⟨_, _, hr, h2, grow _, .inr rfl⟩
variable {α : Type} {cs : α → List Value} {l : KL} {K : Value → World → Prop} {dst : Option Tmp} {pos : String} {aft : Array Go.Edge} {gd : Option (Nat × Bool)}
theorem Xn {s x : Operand} {t ty e : TypeId} {k by_ L B B0 : Nat} {z v u : Value} {xs ys : List α} (ht : elB P t = some e) (hk : Yg P e = some k) (hb : Zar P e = some by_) (hz : Xf P e = some z)
   (hzs : z.cells.size = k) (hk0 : 0 < k) (h1 : ∀ x, ∀ y ∈ cs x, y.oneCell' = true) (ho : Ol cs e k w v xs) (hs : Ls cs k w L B u ys) (hx : ev l s = some v) (hy : ev l x = some u)
   (hbytes : (xs.length + ys.length) * by_ ≤ 140737488355328) (h63 : xs.length + ys.length ≤ 9223372036854775807) (hlo : Lo B0 v) (hB : B0 ≤ w.heap.size)
   (kk : ∀ v' w', Ol cs e k w' v' (xs ++ ys) → Lo B0 v' → (bl v' = bl v ∨ bl v' = [w.heap.size]) → Ch (bl v) w w' → K v' w') :
   Step P l ⟨dst, .call { callee := .builtin .append, args := #[s, x], argTypes := #[t, t] }, ty, pos, aft, gd⟩ w K := by
 obtain ⟨v', w', hr, h2, h3, h4⟩ := Ow.append (ty := ty) ht hk hb hz hzs hk0 ho hs (fun y hy => by obtain ⟨a, _, ha⟩ := List.mem_flatMap.1 hy; exact h1 a y ha) h63 hbytes
 refine Step.of (v := v') (w' := w') (fun ρ hρ => ?_) (kk v' w' ?_ ?_ h4 h3)
 ·unfold execOp
  simp only [resolve, invoke, builtin, Sem.run_bind, Sem.run_pure, Result.andThen_ok, List.map_toArray, List.map_cons, List.map_nil, hρ _ _ hx, hρ _ _ hy, hr]
 ·show Ow w' e k v' (xs ++ ys).length ((xs ++ ys).flatMap cs)
  rw [List.length_append, List.flatMap_append]; exact h2
 intro g hg
 rcases h4 with h4 | h4
 ·rw [h4] at hg; exact hlo g hg
 rw [h4] at hg; have := List.mem_singleton.1 hg; omega
end
theorem Zco (x : Int) : ∀ y ∈ ics x, y.oneCell' = true := by intro y hy; simp [ics] at hy; subst hy; rfl
theorem Pair.one (x : Pair) : ∀ y ∈ x.cs, y.oneCell' = true := by intro y hy; simp [Pair.cs] at hy; rcases hy with rfl | rfl <;> rfl
theorem Token.one (x : Token) : ∀ y ∈ x.cs, y.oneCell' = true := by intro y hy; simp [Token.cs] at hy; rcases hy with rfl | rfl | rfl | rfl <;> rfl
theorem GEdge.one (x : GEdge) : ∀ y ∈ x.cs, y.oneCell' = true := by intro y hy; simp [GEdge.cs] at hy; rcases hy with rfl | rfl | rfl | rfl <;> rfl
structure Sv where
 A : Option Addr
 n : Nat
 c : Nat
def Sv.v (s : Sv) : Value := .slice s.A s.n s.c
def Sv.cs (s : Sv) : List Value := [.slice s.A s.n s.c]
theorem Sv.len (s : Sv) : s.cs.length = 1 := rfl
theorem Sv.one (x : Sv) : ∀ y ∈ x.cs, y.oneCell' = true := by intro y hy; simp [Sv.cs] at hy; subst hy; rfl
def Rd {α : Type} (cs : α → List Value) (k : Nat) (w : World) (L B : Nat) (vs : List Sv) (xs : List (List α)) : Prop :=
 vs.length = xs.length ∧ ∀ (i : Nat) (v : Sv) (x : List α), vs[i]? = some v → xs[i]? = some x → Ls cs k w L B v.v x
section
variable {α : Type} {cs : α → List Value} {k L L' B B' : Nat} {w w' : World} {vs : List Sv} {xs : List (List α)} {ws : List Nat}
theorem Rd.ch (h : Rd cs k w L B vs xs) (c : Ch ws w w') (hw : ∀ i ∈ ws, i < L ∨ B ≤ i) : Rd cs k w' L B vs xs := ⟨h.1, fun i v x a b => (h.2 i v x a b).ch c hw⟩
theorem Rd.ch0 (h : Rd cs k w L B vs xs) (c : Ch [] w w') : Rd cs k w' L B vs xs := h.ch c (by simp)
theorem Rd.up (h : Rd cs k w L B vs xs) (hL : L' ≤ L) (hB : B ≤ B') : Rd cs k w L' B' vs xs := ⟨h.1, fun i v x a b => (h.2 i v x a b).up hL hB⟩
theorem Rd.here (h : Rd cs k w L B vs xs) (hk : 0 < k) : Rd cs k w L w.heap.size vs xs := ⟨h.1, fun i v x a b => (h.2 i v x a b).here hk⟩
theorem Rd.nil : Rd cs k w L B [] ([] : List (List α)) := ⟨rfl, fun _ _ _ h => by simp at h⟩
theorem Rd.cons {v : Sv} {x : List α} (h : Ls cs k w L B v.v x) (r : Rd cs k w L B vs xs) : Rd cs k w L B (v :: vs) (x :: xs) := by
 refine ⟨by simp [r.1], fun i u y a b => ?_⟩
 cases i with
 | zero => simp at a b; subst a b; exact h
 | succ i => exact r.2 i u y (by simpa using a) (by simpa using b)
theorem Rd.get (h : Rd cs k w L B vs xs) {i : Nat} {y : Sv} (hy : vs[i]? = some y) : ∃ x, xs[i]? = some x ∧ Ls cs k w L B y.v x := by
 have hi := (List.getElem?_eq_some_iff.1 hy).1
 have hx : xs[i]? = some (xs[i]'(by have := h.1; omega)) := List.getElem?_eq_getElem _
 exact ⟨_, hx, h.2 i y _ hy hx⟩
theorem Ls.eqn {A : Option Addr} {n c : Nat} {x : List α} (h : Ls cs k w L B (Sv.v ⟨A, n, c⟩) x) : n = x.length := by
 obtain ⟨_, A', c', e, _⟩ := h
 unfold Sv.v at e
 injection e
end
end Go.KLib

namespace Go.KLib
def isK (e : List Token) (k : Int) : Bool := decide (e.length = 1 ∧ (e.getD 0 ⟨0, 0, 0, 0⟩).kind = k)
end Go.KLib

namespace Go.KLib
open Go.ChangeShapes Go.WideShapes Go.ChangeAt Go.RowKit Go.Deep Go.Joins
def Od {α : Type} (cs : α → List Value) (e k : Nat) (w : World) (lo hi : Nat) (vs : List Sv) (xs : List (List α)) : Prop :=
 vs.length = xs.length ∧ (∀ (i : Nat) (v : Sv) (x : List α), vs[i]? = some v → xs[i]? = some x → Ol cs e k w v.v x ∧ ∀ g ∈ bl v.v, lo ≤ g ∧ g < hi) ∧
 ∀ (i j : Nat) (u v : Sv), vs[i]? = some u → vs[j]? = some v → i < j → ∀ g ∈ bl u.v, g ∉ bl v.v
section
variable {α : Type} {cs : α → List Value} {e k lo hi hi' : Nat} {w w' : World} {vs : List Sv} {xs : List (List α)} {ws : List Nat}
theorem Od.ch (h : Od cs e k w lo hi vs xs) (c : Ch ws w w') (hw : ∀ i ∈ ws, i < lo ∨ hi ≤ i) : Od cs e k w' lo hi vs xs :=
 ⟨h.1, fun i v x a b => ⟨(h.2.1 i v x a b).1.ch c fun g hg hm => by have h1 := (h.2.1 i v x a b).2 g hg; have h2 := hw g hm; omega, (h.2.1 i v x a b).2⟩, h.2.2⟩
theorem Od.ch0 (h : Od cs e k w lo hi vs xs) (c : Ch [] w w') : Od cs e k w' lo hi vs xs := h.ch c (by simp)
theorem Od.up {lo' : Nat} (h : Od cs e k w lo hi vs xs) (hl : lo' ≤ lo) (hh : hi ≤ hi') : Od cs e k w lo' hi' vs xs :=
 ⟨h.1, fun i v x a b => ⟨(h.2.1 i v x a b).1, fun g hg => by have h1 := (h.2.1 i v x a b).2 g hg; omega⟩, h.2.2⟩
theorem Od.rd (h : Od cs e k w lo hi vs xs) : Rd cs k w 0 w.heap.size vs xs := ⟨h.1, fun i v x a b => (h.2.1 i v x a b).1.ls⟩
theorem Od.get (h : Od cs e k w lo hi vs xs) {i : Nat} {y : Sv} (hy : vs[i]? = some y) : ∃ x, xs[i]? = some x ∧ Ls cs k w 0 w.heap.size y.v x := h.rd.get hy
theorem Od.nil : Od cs e k w lo hi [] ([] : List (List α)) := ⟨rfl, fun _ _ _ h => by simp at h, fun _ _ _ _ h => by simp at h⟩
theorem Zbb {β : Type} {vs : List β} {v u : β} {i : Nat} (h : (vs ++ [v])[i]? = some u) : (i < vs.length ∧ vs[i]? = some u) ∨ (i = vs.length ∧ u = v) := by
 rcases Nat.lt_or_ge i vs.length with hl | hl
 ·rw [List.getElem?_append_left hl] at h; exact .inl ⟨hl, h⟩
 rw [List.getElem?_append_right hl] at h
 rcases Nat.eq_or_lt_of_le hl with he | he
 ·rw [← he] at h; simp at h; exact .inr ⟨he.symm, h.symm⟩
 rw [List.getElem?_eq_none (by simp; omega)] at h; cases h
theorem Od.snoc (h : Od cs e k w lo hi vs xs) {v : Sv} {x : List α} (ho : Ol cs e k w v.v x) (hl : Lo hi v.v) (hu : ∀ g ∈ bl v.v, g < hi') (hh : hi ≤ hi') (hlo : lo ≤ hi) : Od cs e k w lo hi' (vs ++ [v]) (xs ++ [x]) := by
 refine ⟨by simp [h.1], fun i u y a b => ?_, fun i j u u' a b hij => ?_⟩
 ·rcases Zbb a with ⟨a1, a2⟩ | ⟨a1, a2⟩
  ·rcases Zbb b with ⟨b1, b2⟩ | ⟨b1, b2⟩
   ·exact ⟨(h.2.1 i u y a2 b2).1, fun g hg => by have h1 := (h.2.1 i u y a2 b2).2 g hg; omega⟩
   have := h.1; omega
  rcases Zbb b with ⟨b1, b2⟩ | ⟨b1, b2⟩
  ·have := h.1; omega
  subst a2 b2; exact ⟨ho, fun g hg => ⟨by have := hl g hg; omega, hu g hg⟩⟩
 rcases Zbb b with ⟨b1, b2⟩ | ⟨b1, b2⟩
 ·rcases Zbb a with ⟨a1, a2⟩ | ⟨a1, a2⟩
  ·exact h.2.2 i j u u' a2 b2 hij
  omega
 rcases Zbb a with ⟨a1, a2⟩ | ⟨a1, a2⟩
 ·subst b2
  intro g hg hm
  have hx : xs[i]? = some (xs[i]'(by have := h.1; omega)) := List.getElem?_eq_getElem _
  have h1 := (h.2.1 i u _ a2 hx).2 g hg
  have h2 := hl g hm
  omega
 omega
end
theorem Zuj {vs : List Sv} {k n : Nat} {z y : Sv} (hv : vs.length = k) (hk : k < n) : (vs ++ List.replicate (n - k) z).set k y = (vs ++ [y]) ++ List.replicate (n - (k + 1)) z := by
 subst hv
 rw [List.set_append_right _ _ (Nat.le_refl _), Nat.sub_self, show n - vs.length = (n - (vs.length + 1)) + 1 by omega, List.replicate_succ, List.set_cons_zero, List.append_assoc]; rfl
theorem Zaa {β : Type} {xs : List β} {k : Nat} {y : β} (h : xs[k]? = some y) : xs.take (k + 1) = xs.take k ++ [y] := by rw [List.take_add_one, h]; rfl
theorem Zbt {β : Type} {xs : List β} {k : Nat} {a b : β} (h : xs[k]? = some a) (h' : xs[k]? = some b) : a = b := by rw [h] at h'; injection h'
section
variable {H : Type} {enc : TypeId × Value → H} {P : Program} {w : World} {base : Nat} {spare : Nat → Bool} {held : Bool}
end
def RowP (n : Int) (r : List Int) (k : Nat) : Prop := ∀ (j : Nat) (t : Int), j < k → r[j]? = some t → -1 ≤ t ∧ t ≤ n - 1
def Zvn (n : Int) (r : List Int) : Prop := r.length = 9 ∧ RowP n r r.length
def Zwv (n : Int) (N : List (List Int)) (s : Nat) : Prop := ∀ (j : Nat) (r : List Int), j < s → N[j]? = some r → Zvn n r
def Ztl (S : Int) (A : List Bool) (N : List (List Int)) : Prop := (0 ≤ S ∧ S ≤ (A.length : Int) - 1) ∧ N.length = A.length ∧ Zwv A.length N N.length
def Zgc (S : Int) (A : List Bool) (N : List (List Int)) : Prop := A.length ≤ 12 ∧ Ztl S A N
theorem Zgz {S : Int} {A : List Bool} {N : List (List Int)} (e : Ztl S A N) {k : Nat} {r : List Int} (h : N[k]? = some r) : Zvn A.length r :=
 e.2.2 k r (List.getElem?_eq_some_iff.1 h).1 h
theorem Ztp {S : Int} {A : List Bool} {N : List (List Int)} (e : Ztl S A N) {k j : Nat} {r : List Int} {t : Int} (h : N[k]? = some r) (ht : r[j]? = some t) : -1 ≤ t ∧ t ≤ (A.length : Int) - 1 :=
 (Zgz e h).2 j t (List.getElem?_eq_some_iff.1 ht).1 ht
end Go.KLib

namespace Go.KLib
def Ztk (N : List (List Int)) (s x : Int) : Int := if s < 0 ∨ ¬ (0 ≤ x ∧ x ≤ 8) then -1 else (N.getD s.toNat []).getD x.toNat 0
def accA (A : List Bool) (s : Int) : Bool := decide (0 ≤ s) && A.getD s.toNat false
theorem Zvy {A : List Bool} {s : Int} (h : ¬ 0 ≤ s) : false = accA A s := by
 unfold accA; rw [decide_eq_false h]; rfl
end Go.KLib

namespace Go.KLib
inductive Cl (B : Nat → Prop) (R : Nat → Nat → Prop) : Nat → Prop
 | base {s : Nat} (h : B s) : Cl B R s
 | step {s t : Nat} (h : R s t) (k : Cl B R t) : Cl B R s
def ClN (B : Nat → Prop) (R : Nat → Nat → Prop) : Nat → Nat → Prop
 | 0, s => B s
 | j + 1, s => ClN B R j s ∨ ∃ t, R s t ∧ ClN B R j t
noncomputable def clL (B : Nat → Prop) (R : Nat → Nat → Prop) (n : Nat) : List Bool := (List.range n).map fun s => tt (Cl B R s)
section
variable {B : Nat → Prop} {R : Nat → Nat → Prop} {n : Nat}
theorem Zur {s : Nat} (hs : s < n) : (clL B R n)[s]? = some (tt (Cl B R s)) := by simp [clL, hs]
theorem ClN.up {j s : Nat} (h : ClN B R j s) : ∀ i, ClN B R (j + i) s
 | 0 => h
 | i + 1 => .inl (h.up i)
theorem stay {i : Nat} (hst : ∀ s, ClN B R (i + 1) s → ClN B R i s) : ∀ (m s : Nat), ClN B R (i + m) s → ClN B R i s
 | 0, _, h => h
 | m + 1, s, h => by
  rcases h with h | ⟨t, h, k⟩
  ·exact stay hst m s h
  exact hst s (.inr ⟨t, h, stay hst m t k⟩)
end
def Zqz (A : List Bool) (s : Nat) : Prop := A[s]? = some true
def Zom (N : List (List Int)) (s t : Nat) : Prop := ∃ (i : Nat) (r : List Int), N[s]? = some r ∧ r[i]? = some (t : Int)
theorem Zrm {l : List Bool} {i s : Nat} (h : l[s]? = some true) : (l.set i true)[s]? = some true := by
 rw [List.getElem?_set]
 split
 ·rename_i e; subst e
  rw [if_pos (List.getElem?_eq_some_iff.1 h).1]
 exact h
section
variable {A : List Bool} {N : List (List Int)} {j s k i : Nat} {l : List Bool} {r : List Int} {y : Int}
noncomputable def Zbf (A : List Bool) (N : List (List Int)) : List Bool := clL (Zqz A) (Zom N) A.length
end
section
variable {P : Program} {w : World} {l : KL} {dst : Option Tmp} {ty : TypeId} {pos : String} {aft : Array Go.Edge} {gd : Option (Nat × Bool)} {x y : Operand} {xt yt : TypeId}
theorem Zkf {A : Option Addr} {n c m d' : Nat} (ht : (elB P xt).isSome = true) : (Op.equal xt (.slice A n c) (.slice none m d')).run P w = .ok A.isNone w := by
 obtain ⟨e, he⟩ := Option.isSome_iff_exists.1 ht
 have h : ∀ d, (Op.equalIn (d + 1) xt (.slice A n c) (.slice none m d')).run P w = .ok A.isNone w := fun d => by
  cases A <;> simp [Op.equalIn, run_underlying (Zbs he)]
 exact h 9999
theorem Zum {A : Option Addr} {n c m d : Nat} (ht : (elB P xt).isSome = true) (hx : ev l x = some (.slice A n c)) (hy : ev l y = some (.slice none m d)) : Qd P l ⟨dst, .binOp .eql xt x y yt, ty, pos, aft, gd⟩ w (.bool A.isNone) w := fun ρ hρ => by
 have e : binOp .eql xt (.slice A n c) (.slice none m d) = (do pure (.bool (← Op.equal xt (.slice A n c) (.slice none m d)))) := rfl
 simp [execOp, hρ _ _ hx, hρ _ _ hy, eqGuard, e, Zkf ht]
end
theorem Ls.none {α : Type} {cs : α → List Value} {k L B n c : Nat} {w : World} {A : Option Addr} {xs : List α} (h : Ls cs k w L B (.slice A n c) xs) (hA : A.isNone = true) : xs = [] := by
 obtain ⟨_, A', c', e, _, _, h3⟩ := h
 injection e with e1 e2
 subst e1
 rcases Nat.eq_zero_or_pos xs.length with h0 | h0
 ·exact List.eq_nil_of_length_eq_zero h0
 obtain ⟨ad, ha, _⟩ := h3 h0
 rw [ha] at hA; cases hA
section
variable {A : List Bool} {N : List (List Int)} {s k : Nat} {l : List Bool} {r : List Int} {y : Int}
end
end Go.KLib

namespace Go.KLib
inductive Tr where
 | l0 (t : Token)
 | l1 (t : Token) (a : Tr)
 | l2 (t : Token) (a b : Tr)
def Tr.tok : Tr → Token
 | .l0 t => t
 | .l1 t _ => t
 | .l2 t _ _ => t
def Tr.kids : Tr → List Tr
 | .l0 _ => []
 | .l1 _ a => [a]
 | .l2 _ a b => [a, b]
def Tr.flat : Tr → List Token
 | .l0 t => [t]
 | .l1 t a => a.flat ++ [t]
 | .l2 t a b => a.flat ++ b.flat ++ [t]
def Tr.sz : Tr → Nat
 | .l0 _ => 1
 | .l1 _ a => a.sz + 1
 | .l2 _ a b => a.sz + b.sz + 1
theorem Tr.flat_len : ∀ t : Tr, t.flat.length = t.sz
 | .l0 _ => rfl
 | .l1 _ a => by simp [Tr.flat, Tr.sz, flat_len a]
 | .l2 _ a b => by simp [Tr.flat, Tr.sz, flat_len a, flat_len b, Nat.add_assoc]
theorem Tr.sz_pos : ∀ t : Tr, 0 < t.sz
 | .l0 _ => Nat.one_pos
 | .l1 _ _ => Nat.succ_pos _
 | .l2 _ _ _ => Nat.succ_pos _
theorem Tr.kid_sz {t k : Tr} {i : Nat} (h : t.kids[i]? = some k) : k.sz < t.sz := by
 cases t with
 | l0 t => simp [Tr.kids] at h
 | l1 t a =>
  match i with
  | 0 => simp [Tr.kids] at h; subst h; simp [Tr.sz]
  | i + 1 => simp [Tr.kids] at h
 | l2 t a b =>
  match i with
  | 0 => simp [Tr.kids] at h; subst h; simp [Tr.sz]; omega
  | 1 => simp [Tr.kids] at h; subst h; simp [Tr.sz]; omega
  | i + 2 => simp [Tr.kids] at h
def arT (t : Token) : Int :=
 if t.kind = 1 ∨ t.kind = 2 then (if t.letter = 0 ∧ t.low = 0 ∧ t.high = 0 then 0 else -1)
 else if t.kind = 3 then (if (0 ≤ t.letter ∧ t.letter ≤ 8) ∧ t.low = 0 ∧ t.high = 0 then 0 else -1)
 else if t.kind = 4 ∨ t.kind = 5 then (if t.letter = 0 ∧ t.low = 0 ∧ t.high = 0 then 2 else -1)
 else if t.kind = 6 then (if t.letter = 0 ∧ t.low = 0 ∧ t.high = 0 then 1 else -1)
 else if t.kind = 7 then (if t.letter = 0 ∧ (1 ≤ t.high ∧ t.high ≤ 3) ∧ (0 ≤ t.low ∧ t.low ≤ t.high) then 1 else -1)
 else -1
theorem Zba (t : Token) : arT t = -1 ∨ arT t = 0 ∨ arT t = 1 ∨ arT t = 2 := by
 unfold arT; repeat' split
 all_goals simp
def Zeh (t : Token) : Bool := decide (0 ≤ arT t)
def arK (k : Int) : Int := if k = 4 ∨ k = 5 then 2 else if k = 6 ∨ k = 7 then 1 else 0
theorem Ztq (k : Int) : 0 ≤ arK k ∧ arK k ≤ 2 := by unfold arK; repeat' split; all_goals omega
theorem Zaz {t : Token} (h : 0 ≤ arT t) : arT t = arK t.kind := by
 unfold arT arK at *
 repeat' split at h
 all_goals first | omega | (repeat' split) <;> omega
def push (st : List Tr) (t : Token) : Option (List Tr) :=
 if arT t = 0 then some (.l0 t :: st)
 else if arT t = 1 then (match st with
  | a :: r => some (.l1 t a :: r)
  | [] => none)
 else if arT t = 2 then (match st with
  | b :: a :: r => some (.l2 t a b :: r)
  | _ => none)
 else none
def prs : List Tr → List Token → Option (List Tr)
 | st, [] => some st
 | st, t :: l => (push st t).bind fun st' => prs st' l
def Qx (l : List Token) : Option Tr :=
 match prs [] l with
 | some [t] => some t
 | _ => none
def Okd : Tr → Prop
 | .l0 t => arT t = 0
 | .l1 t a => arT t = 1 ∧ Okd a
 | .l2 t a b => arT t = 2 ∧ Okd a ∧ Okd b
def Zko (st : List Tr) : List Token := (st.reverse.map Tr.flat).flatten
theorem Zdz (t : Tr) (st : List Tr) : Zko (t :: st) = Zko st ++ t.flat := by simp [Zko]
theorem Zfp : ∀ (l m : List Token) (st : List Tr), prs st (l ++ m) = (prs st l).bind fun st' => prs st' m
 | [], m, st => rfl
 | t :: l, m, st => by
  simp only [List.cons_append, prs]
  cases push st t with
  | none => rfl
  | some st' => exact Zfp l m st'
theorem Ztw (st : List Tr) (t : Token) : prs st [t] = push st t := by
 simp only [prs]; cases push st t <;> rfl
theorem Zgy {l : List Token} {st : List Tr} {k : Nat} {t : Token} (h : prs [] (l.take k) = some st) (ht : l[k]? = some t) : prs [] (l.take (k + 1)) = push st t := by
 rw [Zaa ht, Zfp, h]; exact Ztw st t
theorem Znc {l : List Token} {k : Nat} (h : prs [] (l.take k) = none) : prs [] l = none := by
 rw [← List.take_append_drop k l, Zfp, h]; rfl
theorem Zpl {l : List Token} {k : Nat} {st : List Tr} (h : prs [] (l.take k) = some st) (hk : l.length ≤ k) : prs [] l = some st := by
 rwa [List.take_of_length_le hk] at h
theorem Zeu : ∀ (t : Tr) (st : List Tr) (l : List Token), Okd t → prs st (t.flat ++ l) = prs (t :: st) l
 | .l0 t, st, l, h => by simp only [Okd] at h; simp [Tr.flat, prs, push, h]
 | .l1 t a, st, l, h => by
  obtain ⟨h1, h2⟩ := h
  rw [Tr.flat, List.append_assoc, Zeu a st _ h2]
  simp [prs, push, h1]
 | .l2 t a b, st, l, h => by
  obtain ⟨h1, h2, h3⟩ := h
  rw [Tr.flat, List.append_assoc, List.append_assoc, Zeu a st _ h2, Zeu b _ _ h3]
  simp [prs, push, h1]
theorem Zcr {t : Tr} (h : Okd t) : Qx t.flat = some t := by
 have := Zeu t [] [] h
 rw [List.append_nil] at this
 unfold Qx; rw [this]; rfl
theorem Zus {st st' : List Tr} {t : Token} (hs : ∀ x ∈ st, Okd x) (h : push st t = some st') : (∀ x ∈ st', Okd x) ∧ Zko st' = Zko st ++ [t] := by
 unfold push at h
 split at h
 ·rename_i h0
  injection h with h; subst h
  refine ⟨fun x hx => ?_, by rw [Zdz]; rfl⟩
  rcases List.mem_cons.1 hx with rfl | hx
  ·exact h0
  exact hs x hx
 split at h
 ·rename_i h1
  split at h
  ·rename_i a r
   injection h with h; subst h
   refine ⟨fun x hx => ?_, by rw [Zdz, Zdz, Tr.flat, List.append_assoc]⟩
   rcases List.mem_cons.1 hx with rfl | hx
   ·exact ⟨h1, hs a (by simp)⟩
   exact hs x (by simp [hx])
  cases h
 split at h
 ·rename_i h2
  split at h
  ·rename_i b a r
   injection h with h; subst h
   refine ⟨fun x hx => ?_, by simp [Zdz, Tr.flat]⟩
   rcases List.mem_cons.1 hx with rfl | hx
   ·exact ⟨h2, hs a (by simp), hs b (by simp)⟩
   exact hs x (by simp [hx])
  cases h
 cases h
theorem Zsz : ∀ (l : List Token) (st st' : List Tr), (∀ x ∈ st, Okd x) → prs st l = some st' → (∀ x ∈ st', Okd x) ∧ Zko st' = Zko st ++ l
 | [], st, st', hs, h => by simp [prs] at h; subst h; simpa using hs
 | t :: l, st, st', hs, h => by
  simp only [prs] at h
  cases hp : push st t with
  | none => rw [hp] at h; cases h
  | some s1 =>
   rw [hp] at h
   obtain ⟨h1, h2⟩ := Zus hs hp
   obtain ⟨h3, h4⟩ := Zsz l s1 st' h1 h
   exact ⟨h3, by rw [h4, h2]; simp⟩
theorem Zdv {l : List Token} {t : Tr} (h : Qx l = some t) : Okd t ∧ t.flat = l := by
 unfold Qx at h
 split at h
 ·rename_i s hs
  injection h with h; subst h
  obtain ⟨h1, h2⟩ := Zsz l [] _ (by simp) hs
  exact ⟨h1 _ (by simp), by simpa [Zko] using h2⟩
 cases h
theorem Okd.ar {t : Tr} (h : Okd t) : arT t.tok = t.kids.length := by
 cases t with
 | l0 t => exact h
 | l1 t a => exact h.1
 | l2 t a b => exact h.1
theorem Okd.kid {t k : Tr} {i : Nat} (h : Okd t) (hk : t.kids[i]? = some k) : Okd k := by
 cases t with
 | l0 t => simp [Tr.kids] at hk
 | l1 t a =>
  match i with
  | 0 => simp [Tr.kids] at hk; subst hk; exact h.2
  | i + 1 => simp [Tr.kids] at hk
 | l2 t a b =>
  match i with
  | 0 => simp [Tr.kids] at hk; subst hk; exact h.2.1
  | 1 => simp [Tr.kids] at hk; subst hk; exact h.2.2
  | i + 2 => simp [Tr.kids] at hk
def isE (l : List Token) : Bool := (Qx l).isSome
theorem Zit {l : List Token} {k : Nat} {st : List Tr} {t : Token} (h : prs [] (l.take k) = some st) (ht : l[k]? = some t) (hp : push st t = none) : Qx l = none := by
 have h1 := Znc (k := k + 1) ((Zgy h ht).trans hp)
 unfold Qx; rw [h1]
theorem Zhx {l : List Token} {k : Nat} {st : List Tr} (h : prs [] (l.take k) = some st) (hk : l.length ≤ k) : Qx l = match (motive := List Tr → Option Tr) st with | [t] => some t | _ => none := by
 have h1 := Zpl h hk
 unfold Qx; rw [h1]
 match st with
 | [] => rfl
 | [t] => rfl
 | a :: b :: r => rfl
theorem Zmb {l : List Token} {k : Nat} {st : List Tr} (h : prs [] (l.take k) = some st) (hk : l.length ≤ k) : isE l = decide ((st.length : Int) = 1) := by
 unfold isE; rw [Zhx h hk]
 match st with
 | [] => rfl
 | [t] => rfl
 | a :: b :: r => simp; omega
theorem Zjt {st : List Tr} {t : Token} (h : arT t < 0 ∨ (st.length : Int) < arT t) : push st t = none := by
 unfold push
 rcases Zba t with e | e | e | e <;> rw [e] at h ⊢
 ·rfl
 ·omega
 ·match st with
  | [] => rfl
  | a :: r => simp at h; omega
 match st with
 | [] => rfl
 | [a] => rfl
 | a :: b :: r => simp at h; omega
theorem Zru {st : List Tr} {t : Token} (h0 : 0 ≤ arT t) (h : arT t ≤ (st.length : Int)) : ∃ st', push st t = some st' ∧ (st'.length : Int) = st.length - arT t + 1 := by
 unfold push
 rcases Zba t with e | e | e | e <;> rw [e] at h h0 ⊢ <;> simp at h h0 ⊢
 ·match st with
  | [] => simp at h
  | a :: r => exact ⟨_, rfl, by simp⟩
 match st with
 | [] => simp at h
 | [a] => simp at h
 | a :: b :: r => exact ⟨_, rfl, by simp; omega⟩
end Go.KLib

namespace Go.KLib
def acs (a : Addr) : List Value := [.pointer (some a)]
theorem Zao (a : Addr) : (acs a).length = 1 := rfl
theorem Zhq (x : Addr) : ∀ y ∈ acs x, y.oneCell' = true := by intro y hy; simp [acs] at hy; subst hy; rfl
def Cel (w : World) (p : Addr) (cs : List Value) : Prop := ∀ j u, cs[j]? = some u → w.cell? (p.add j) = some u
theorem Cel.ch {w w' : World} {p : Addr} {cs : List Value} {ws : List Nat} (h : Cel w p cs) (c : Ch ws w w') (hn : p.block ∉ ws) : Cel w' p cs :=
 fun j u hu => c.cell (h j u hu) (by rwa [Zcq])
def TrF (w : World) (F : Nat → Prop) : Addr → Tr → Prop
 | p, .l0 t => F p.block ∧ ∃ A C, Cel w p (t.cs ++ [.slice A 0 C]) ∧ C ≤ maxLen
 | p, .l1 t a => F p.block ∧ ∃ d C q, Cel w p (t.cs ++ [.slice (some d) 1 C]) ∧ 1 ≤ C ∧ C ≤ maxLen ∧ F d.block ∧ Cel w d [.pointer (some q)] ∧ TrF w F q a
 | p, .l2 t a b => F p.block ∧ ∃ d C q r, Cel w p (t.cs ++ [.slice (some d) 2 C]) ∧ 2 ≤ C ∧ C ≤ maxLen ∧ F d.block ∧ Cel w d [.pointer (some q), .pointer (some r)] ∧ TrF w F q a ∧ TrF w F r b
section
variable {w w' : World} {F G : Nat → Prop} {p : Addr} {t : Tr} {ws : List Nat} {L L' B B' : Nat}
theorem TrF.ch (c : Ch ws w w') (hw : ∀ i, F i → i ∉ ws) : ∀ {t : Tr} {p : Addr}, TrF w F p t → TrF w' F p t
 | .l0 _, _, ⟨h0, A, C, h1, h2⟩ => ⟨h0, A, C, h1.ch c (hw _ h0), h2⟩
 | .l1 _ _, _, ⟨h0, d, C, q, h1, h2, h3, h4, h5, h6⟩ => ⟨h0, d, C, q, h1.ch c (hw _ h0), h2, h3, h4, h5.ch c (hw _ h4), h6.ch c hw⟩
 | .l2 _ _ _, _, ⟨h0, d, C, q, r, h1, h2, h3, h4, h5, h6, h7⟩ => ⟨h0, d, C, q, r, h1.ch c (hw _ h0), h2, h3, h4, h5.ch c (hw _ h4), h6.ch c hw, h7.ch c hw⟩
theorem TrF.mono (hF : ∀ i, F i → G i) : ∀ {t : Tr} {p : Addr}, TrF w F p t → TrF w G p t
 | .l0 _, _, ⟨h0, A, C, h1, h2⟩ => ⟨hF _ h0, A, C, h1, h2⟩
 | .l1 _ _, _, ⟨h0, d, C, q, h1, h2, h3, h4, h5, h6⟩ => ⟨hF _ h0, d, C, q, h1, h2, h3, hF _ h4, h5, h6.mono hF⟩
 | .l2 _ _ _, _, ⟨h0, d, C, q, r, h1, h2, h3, h4, h5, h6, h7⟩ => ⟨hF _ h0, d, C, q, r, h1, h2, h3, hF _ h4, h5, h6.mono hF, h7.mono hF⟩
theorem Cel.lt {v : Value} {cs : List Value} (h : Cel w p (v :: cs)) : p.block < w.heap.size := by
 have := World.block_lt_of_cell? w _ (h 0 v rfl)
 rwa [Zcq] at this
theorem TrF.here : ∀ {t : Tr} {p : Addr}, TrF w F p t → TrF w (fun b => b < w.heap.size ∧ F b) p t
 | .l0 _, _, ⟨h0, A, C, h1, h2⟩ => ⟨⟨Cel.lt h1, h0⟩, A, C, h1, h2⟩
 | .l1 _ _, _, ⟨h0, d, C, q, h1, h2, h3, h4, h5, h6⟩ => ⟨⟨Cel.lt h1, h0⟩, d, C, q, h1, h2, h3, ⟨Cel.lt h5, h4⟩, h5, h6.here⟩
 | .l2 _ _ _, _, ⟨h0, d, C, q, r, h1, h2, h3, h4, h5, h6, h7⟩ => ⟨⟨Cel.lt h1, h0⟩, d, C, q, r, h1, h2, h3, ⟨Cel.lt h5, h4⟩, h5, h6.here, h7.here⟩
def TrAt (w : World) (L B : Nat) (p : Addr) (t : Tr) : Prop := TrF w (fun b => L ≤ b ∧ b < B) p t
theorem TrAt.ch (h : TrAt w L B p t) (c : Ch ws w w') (hw : ∀ i ∈ ws, i < L ∨ B ≤ i) : TrAt w' L B p t := TrF.ch c (fun i hi hm => by have := hw i hm; omega) h
theorem TrAt.ch0 (h : TrAt w L B p t) (c : Ch [] w w') : TrAt w' L B p t := h.ch c (by simp)
theorem TrAt.up (h : TrAt w L B p t) (hL : L' ≤ L) (hB : B ≤ B') : TrAt w L' B' p t := TrF.mono (fun i hi => ⟨Nat.le_trans hL hi.1, Nat.lt_of_lt_of_le hi.2 hB⟩) h
theorem TrAt.here (h : TrAt w L B p t) : TrAt w L w.heap.size p t := TrF.mono (fun _ h => ⟨h.2.1, h.1⟩) (TrF.here h)
def Kd (w : World) (L B : Nat) (ps : List Addr) (ts : List Tr) : Prop := ps.length = ts.length ∧ ∀ (i : Nat) (q : Addr) (t : Tr), ps[i]? = some q → ts[i]? = some t → TrAt w L B q t
variable {ps : List Addr} {ts : List Tr}
theorem Kd.ch (h : Kd w L B ps ts) (c : Ch ws w w') (hw : ∀ i ∈ ws, i < L ∨ B ≤ i) : Kd w' L B ps ts := ⟨h.1, fun i q t a b => (h.2 i q t a b).ch c hw⟩
theorem Kd.ch0 (h : Kd w L B ps ts) (c : Ch [] w w') : Kd w' L B ps ts := h.ch c (by simp)
theorem Kd.up (h : Kd w L B ps ts) (hL : L' ≤ L) (hB : B ≤ B') : Kd w L' B' ps ts := ⟨h.1, fun i q t a b => (h.2 i q t a b).up hL hB⟩
theorem Kd.get (h : Kd w L B ps ts) {i : Nat} {y : Addr} (hy : ps[i]? = some y) : ∃ k, ts[i]? = some k ∧ TrAt w L B y k := by
 have hi := (List.getElem?_eq_some_iff.1 hy).1
 have hx : ts[i]? = some (ts[i]'(by have := h.1; omega)) := List.getElem?_eq_getElem _
 exact ⟨_, hx, h.2 i y _ hy hx⟩
theorem Kd.nil : Kd w L B [] [] := ⟨rfl, fun _ _ _ h => by simp at h⟩
theorem Kd.cons {q : Addr} (h : TrAt w L B q t) (r : Kd w L B ps ts) : Kd w L B (q :: ps) (t :: ts) := by
 refine ⟨by simp [r.1], fun i u y a b => ?_⟩
 cases i with
 | zero => simp at a b; subst a b; exact h
 | succ i => exact r.2 i u y (by simpa using a) (by simpa using b)
theorem Cel.at {cs : List Value} (h : Cel w p cs) (hb : L ≤ p.block ∧ p.block < B) : At w L B p cs := ⟨hb, h⟩
theorem TrAt.open (h : TrAt w L B p t) : ∃ (A : Option Addr) (C : Nat) (ps : List Addr), At w L B p [.int .i64 t.tok.kind, .int .i64 t.tok.letter, .int .i64 t.tok.low, .int .i64 t.tok.high, .slice A ps.length C] ∧ Ls acs 1 w L B (.slice A ps.length C) ps ∧ Kd w L B ps t.kids := by
 cases t with
 | l0 k =>
  obtain ⟨h0, A, C, h1, h2⟩ := h
  exact ⟨A, C, [], ⟨h0, h1⟩, ⟨rfl, A, C, rfl, Nat.zero_le _, h2, fun h => absurd h (by simp)⟩, Kd.nil⟩
 | l1 k a =>
  obtain ⟨h0, d, C, q, h1, h2, h3, h4, h5, h6⟩ := h
  exact ⟨some d, C, [q], ⟨h0, h1⟩, ⟨rfl, some d, C, rfl, h2, h3, fun _ => ⟨d, rfl, h4, h5⟩⟩, Kd.cons h6 Kd.nil⟩
 | l2 k a b =>
  obtain ⟨h0, d, C, q, r, h1, h2, h3, h4, h5, h6, h7⟩ := h
  exact ⟨some d, C, [q, r], ⟨h0, h1⟩, ⟨rfl, some d, C, rfl, h2, h3, fun _ => ⟨d, rfl, h4, h5⟩⟩, Kd.cons h6 (Kd.cons h7 Kd.nil)⟩
def mkTr (t : Token) : List Tr → Tr
 | [] => .l0 t
 | [a] => .l1 t a
 | a :: b :: _ => .l2 t a b
def KdF (w : World) (F : Nat → Prop) (ps : List Addr) (ts : List Tr) : Prop := ps.length = ts.length ∧ ∀ (i : Nat) (q : Addr) (t : Tr), ps[i]? = some q → ts[i]? = some t → TrF w F q t
theorem TrF.mk {k : Token} {v : Value} (hp : F p.block) (hc : Cel w p (k.cs ++ [v])) (hs : Ls acs 1 w L B v ps) (hF : ∀ A n c, v = .slice (some A) n c → 0 < n → F A.block) (hk : KdF w F ps ts) (h2 : ps.length ≤ 2) : TrF w F p (mkTr k ts) := by
 obtain ⟨hl, A, C, rfl, hn, hm, hA⟩ := hs
 obtain ⟨he, hk⟩ := hk
 match ps, ts, he with
 | [], [], _ => exact ⟨hp, A, C, hc, hm⟩
 | [q], [a], _ =>
  obtain ⟨d, rfl, hd⟩ := hA (by simp)
  exact ⟨hp, d, C, q, hc, hn, hm, hF _ _ _ rfl (by simp), hd.2, hk 0 q a rfl rfl⟩
 | [q, r], [a, b], _ =>
  obtain ⟨d, rfl, hd⟩ := hA (by simp)
  exact ⟨hp, d, C, q, r, hc, hn, hm, hF _ _ _ rfl (by simp), hd.2, hk 0 q a rfl rfl, hk 1 r b rfl rfl⟩
 | _ :: _ :: _ :: _, _, _ => simp at h2
end
def pcs (a : Option Addr) : List Value := [.pointer a]
theorem Zsa (ys : List Addr) : (ys.map some).flatMap pcs = ys.flatMap acs := by
 induction ys with
 | nil => rfl
 | cons y ys ih => simp only [List.map_cons, List.flatMap_cons, ih]; rfl
theorem Ol.pcs {w : World} {e : Nat} {v : Value} {ys : List Addr} (h : Ol Go.KLib.pcs e 1 w v (ys.map some)) : Ol acs e 1 w v ys := by
 unfold Ol at h ⊢
 rw [Zsa, List.length_map] at h
 exact h
theorem Zax {P : Program} {w : World} {l : KL} {dst : Option Tmp} {ty : TypeId} {pos : String} {aft : Array Go.Edge} {gd : Option (Nat × Bool)} {K : Value → World → Prop} {e : Nat}
   {t : TypeId} {n : Nat} {parts : List (Nat × Operand)} {vs : List (Nat × Value)} (ys : List Addr) (ht : elB P t = some e) (hk : Yg P e = some 1) (hz : Xf P e = some (.pointer none))
   (hv : evp l parts = some vs) (hn : (ys.map some).length = n) (hp : 0 < n) (hn0 : n * 1 ≤ 16777216) (hf : Zlt (fun i => some (i * 1, 1)) ((List.replicate n (none : Option Addr)).flatMap pcs) vs = some ((ys.map some).flatMap pcs))
   (kk : ∀ v w', Ol acs e 1 w' v ys → Lo w.heap.size v → Ch [] w w' → K v w') : Step P l ⟨dst, .buildSlice t n parts.toArray, ty, pos, aft, gd⟩ w K :=
 Ym (cs := pcs) (k := 1) none (ys.map some) ht hk hz (fun _ => rfl) (by decide) rfl hv hn hp hn0 hf fun v w' h1 h2 h3 => kk v w' h1.pcs h2 h3
end Go.KLib

namespace Go.KLib
section
variable {P : Program} {w : World} {l : KL} {dst : Option Tmp} {ty : TypeId} {pos : String} {aft : Array Go.Edge} {gd : Option (Nat × Bool)} {K : Value → World → Prop}
theorem Zuf {t e : TypeId} (h : elB P t = some e) : P.underlying t = some (.slice (P.elem t)) ∧ P.elem t = e := by
 have h1 := Zbs h
 have h2 : P.elem t = e := by simp [Program.elem, h1]
 exact ⟨by rw [h2]; exact h1, h2⟩
def cutV (v : Value) (k lo hi : Nat) : Value :=
 match v with
 | .slice A n c => sliced A lo hi c k
 | v => v
theorem Zmp (v : Value) (k lo hi : Nat) : bl (cutV v k lo hi) = bl v := by
 cases v <;> try rfl
 rename_i A n c
 cases A with
 | none => simp [cutV, sliced, bl, Value.ownBlock]
 | some a =>
  simp only [cutV, sliced, Option.map_some]
  split
  ·rfl
  simp [bl, Value.ownBlock, Zcq]
theorem Zuu {t e : TypeId} {k n c lo hi : Nat} {A : Option Addr} (ht : elB P t = some e) (hk : Yg P e = some k) (L H : Option Value)
   (hL : (∃ q, L = some (.int q (lo : Int))) ∨ (L = none ∧ lo = 0)) (hH : (∃ q, H = some (.int q (hi : Int))) ∨ (H = none ∧ hi = n)) (h1 : lo ≤ hi) (h2 : hi ≤ c) (hn : n ≤ c) :
   (Instr.sliceAt t (.slice A n c) L H none).run P w = .ok (cutV (.slice A n c) k lo hi) w := by
 obtain ⟨hu, he⟩ := Zuf ht
 have hs : (sizeOf (P.elem t)).run P w = .ok k w := by rw [he]; exact Zau hk
 rw [run_sliceAt_slice (P := P) (w := w) t _ _ _ _ hu]
 rcases hL with ⟨q, rfl⟩ | ⟨rfl, rfl⟩ <;> rcases hH with ⟨q', rfl⟩ | ⟨rfl, rfl⟩
 ·rw [run_slice_lh (P := P) (w := w) t A n c hu q q' lo hi (by omega) (by omega) (by omega), hs]; rfl
 ·rw [run_slice_l (P := P) (w := w) t A hi c hu q lo (by omega) (by omega), hs]; rfl
 ·rw [run_slice_h (P := P) (w := w) t A n c hu q' hi (by omega) (by omega), hs]; rfl
 rw [run_slice_all (P := P) (w := w) t A hi c hu, hs]; rfl
variable {α : Type} {cs : α → List Value} {e k L B : Nat} {v : Value} {xs : List α}
theorem Zqq (hc : ∀ x, (cs x).length = k) (xs : List α) (i : Nat) : (xs.drop i).flatMap cs = (xs.flatMap cs).drop (i * k) := by
 induction xs generalizing i with
 | nil => simp
 | cons x xs ih =>
  cases i with
  | zero => simp
  | succ i =>
   rw [List.drop_succ_cons, ih, List.flatMap_cons, show (i + 1) * k = (cs x).length + i * k by rw [hc x, Nat.succ_mul, Nat.add_comm], List.drop_length_add_append]
theorem Zqn (hc : ∀ x, (cs x).length = k) (xs : List α) (i : Nat) : (xs.take i).flatMap cs = (xs.flatMap cs).take (i * k) := by
 induction xs generalizing i with
 | nil => simp
 | cons x xs ih =>
  cases i with
  | zero => simp
  | succ i =>
   rw [List.take_succ_cons, List.flatMap_cons, ih, List.flatMap_cons, show (i + 1) * k = (cs x).length + i * k by rw [hc x, Nat.succ_mul, Nat.add_comm], List.take_length_add_append]
theorem Znh (hc : ∀ x, (cs x).length = k) (xs : List α) (lo n : Nat) : ((xs.drop lo).take n).flatMap cs = ((xs.flatMap cs).drop (lo * k)).take (n * k) := by
 rw [Zqn hc, Zqq hc]
theorem Ls.cut (h : Ls cs k w L B v xs) (hc : ∀ x, (cs x).length = k) {lo hi : Nat} (h1 : lo ≤ hi) (h2 : hi ≤ xs.length) : Ls cs k w L B (cutV v k lo hi) ((xs.drop lo).take (hi - lo)) := by
 obtain ⟨hl, A, c, rfl, hn, hm, hA⟩ := h
 have hlen : ((xs.drop lo).take (hi - lo)).length = hi - lo := by rw [List.length_take, List.length_drop]; omega
 refine ⟨by rw [flat_len hc], _, _, by rw [hlen]; rfl, by omega, by omega, fun h0 => ?_⟩
 rw [hlen] at h0
 obtain ⟨ad, rfl, ha⟩ := hA (by omega)
 rw [if_neg (by omega)]
 refine ⟨ad.add (lo * k), rfl, ?_⟩
 have h3 := ha.sub (lo * k) ((hi - lo) * k)
 rw [← Znh hc] at h3
 exact h3
theorem Ol.cut (h : Ol cs e k w v xs) (hc : ∀ x, (cs x).length = k) {lo hi : Nat} (h1 : lo ≤ hi) (h2 : hi ≤ xs.length) : Ol cs e k w (cutV v k lo hi) ((xs.drop lo).take (hi - lo)) := by
 have hlen : ((xs.drop lo).take (hi - lo)).length = hi - lo := by rw [List.length_take, List.length_drop]; omega
 refine ⟨by rw [flat_len hc], ?_⟩
 rcases h.2 with ⟨rfl, h0⟩ | ⟨g, off, cap, cur, rfl, hg, hn, hm, hf, ht⟩
 ·refine .inl ⟨?_, by omega⟩
  obtain rfl : hi = 0 := by omega
  obtain rfl : lo = 0 := by omega
  rfl
 refine .inr ⟨g, if cap = lo then off else off + lo * k, cap - lo, cur, ?_, hg, by omega, by omega, ?_, ?_⟩
 ·rw [hlen]
  simp only [cutV, sliced]
  split
  ·rfl
  simp [add_lit]
 ·split
  ·rename_i hcl
   subst hcl
   have : off ≤ cur.size := by
    have := Nat.le_trans (Nat.le_add_right off (cap * k)) hf
    exact this
   simp; omega
  have h5 : lo * k + (cap - lo) * k = cap * k := by rw [← Nat.add_mul]; congr 1; omega
  omega
 rw [Znh hc, ← ht, hlen]
 split
 ·have : hi - lo = 0 := by omega
  rw [this]; simp
 rw [← List.drop_drop, List.drop_take, List.take_take]
 congr 1
 have h6 : (hi - lo) * k + lo * k ≤ xs.length * k := by rw [← Nat.add_mul]; exact Nat.mul_le_mul_right _ (by omega)
 omega
def bndB (l : KL) (o : Option Operand) (dflt n : Nat) : Prop :=
 match o with
 | some x => ∃ q i, ev l x = some (.int q i) ∧ i = (n : Int)
 | none => n = dflt
theorem Zrc {w' : World} {x : Operand} {t : TypeId} {Lo Hi : Option Operand} {lo hi : Nat} (hs : Ls cs k w L B v xs) (ht : elB P t = some e) (hk : Yg P e = some k) (hx : ev l x = some v)
   (hL : bndB l Lo 0 lo) (hH : bndB l Hi xs.length hi) (h1 : lo ≤ hi) (h2 : hi ≤ xs.length) : Qd P l ⟨dst, .slice t x Lo Hi none, ty, pos, aft, gd⟩ w' (cutV v k lo hi) w' := fun ρ hρ => by
 obtain ⟨hl, A, c, rfl, hn, hm, hA⟩ := hs
 have e1 := Zuu (P := P) (w := w') (A := A) (n := xs.length) (c := c) ht hk (Lo.map ρ) (Hi.map ρ)
  (by cases Lo with
   | none => exact .inr ⟨rfl, hL⟩
   | some y => obtain ⟨q, i, hq, rfl⟩ := hL; exact .inl ⟨q, by simp [hρ _ _ hq]⟩)
  (by cases Hi with
   | none => exact .inr ⟨rfl, hH⟩
   | some y => obtain ⟨q, i, hq, rfl⟩ := hH; exact .inl ⟨q, by simp [hρ _ _ hq]⟩) h1 (Nat.le_trans h2 hn) hn
 unfold execOp
 simp only [Option.map_none, hρ _ _ hx, Sem.run_bind, e1, Result.andThen_ok, Sem.run_pure]
theorem Zgo {x : Operand} {t : TypeId} {Lo Hi : Option Operand} {ys : List α} (lo hi : Nat) (hs : Ls cs k w L B v xs) (hc : ∀ x, (cs x).length = k) (ht : elB P t = some e) (hk : Yg P e = some k) (hx : ev l x = some v)
   (hL : bndB l Lo 0 lo) (hH : bndB l Hi xs.length hi) (h1 : lo ≤ hi) (h2 : hi ≤ xs.length) (hy : (xs.drop lo).take (hi - lo) = ys)
   (kk : ∀ v', Ls cs k w L B v' ys → bl v' = bl v → ys.length = hi - lo → K v' w) : Step P l ⟨dst, .slice t x Lo Hi none, ty, pos, aft, gd⟩ w K :=
 Step.of (Zrc hs ht hk hx hL hH h1 h2) (kk _ (hy ▸ hs.cut hc h1 h2) (Zmp _ _ _ _) (by rw [← hy, List.length_take, List.length_drop]; omega))
theorem Zmx {e' : TypeId} {x : Operand} {t : TypeId} {Lo Hi : Option Operand} {ys : List α} (lo hi : Nat) (hs : Ol cs e' k w v xs) (hc : ∀ x, (cs x).length = k) (ht : elB P t = some e) (hk : Yg P e = some k) (hx : ev l x = some v)
   (hL : bndB l Lo 0 lo) (hH : bndB l Hi xs.length hi) (h1 : lo ≤ hi) (h2 : hi ≤ xs.length) (hy : (xs.drop lo).take (hi - lo) = ys)
   (kk : ∀ v', Ol cs e' k w v' ys → bl v' = bl v → ys.length = hi - lo → K v' w) : Step P l ⟨dst, .slice t x Lo Hi none, ty, pos, aft, gd⟩ w K :=
 Step.of (Zrc hs.ls ht hk hx hL hH h1 h2) (kk _ (hy ▸ hs.cut hc h1 h2) (Zmp _ _ _ _) (by rw [← hy, List.length_take, List.length_drop]; omega))
theorem Zhh {S : World → Prop} {G : Value → Prop} {x : Operand} {t : TypeId} {Lo Hi : Option Operand} {ys : List α} (lo hi : Nat) (hs : Ls cs k w L B v xs) (hc : ∀ x, (cs x).length = k) (ht : elB P t = some e) (hk : Yg P e = some k) (hx : ev l x = some v)
   (hL : bndB l Lo 0 lo) (hH : bndB l Hi xs.length hi) (h1 : lo ≤ hi) (h2 : hi ≤ xs.length) (hy : (xs.drop lo).take (hi - lo) = ys)
   (kk : ∀ v', Ls cs k w L B v' ys → bl v' = bl v → ys.length = hi - lo → G v') : Tk P S l ⟨dst, .slice t x Lo Hi none, ty, pos, aft, gd⟩ G :=
 Tk.of (fun _ _ => Zrc hs ht hk hx hL hH h1 h2) (kk _ (hy ▸ hs.cut hc h1 h2) (Zmp _ _ _ _) (by rw [← hy, List.length_take, List.length_drop]; omega))
theorem Zwi {S : World → Prop} {G : Value → Prop} {e' : TypeId} {x : Operand} {t : TypeId} {Lo Hi : Option Operand} {ys : List α} (lo hi : Nat) (hs : Ol cs e' k w v xs) (hc : ∀ x, (cs x).length = k) (ht : elB P t = some e) (hk : Yg P e = some k) (hx : ev l x = some v)
   (hL : bndB l Lo 0 lo) (hH : bndB l Hi xs.length hi) (h1 : lo ≤ hi) (h2 : hi ≤ xs.length) (hy : (xs.drop lo).take (hi - lo) = ys)
   (kk : ∀ v', Ol cs e' k w v' ys → bl v' = bl v → ys.length = hi - lo → G v') : Tk P S l ⟨dst, .slice t x Lo Hi none, ty, pos, aft, gd⟩ G :=
 Tk.of (fun _ _ => Zrc hs.ls ht hk hx hL hH h1 h2) (kk _ (hy ▸ hs.cut hc h1 h2) (Zmp _ _ _ _) (by rw [← hy, List.length_take, List.length_drop]; omega))
theorem Zow (xs : List α) (lo : Nat) : (xs.drop lo).take (xs.length - lo) = xs.drop lo := List.take_of_length_le (by rw [List.length_drop]; exact Nat.le_refl _)
end
def ptrB (P : Program) (t : TypeId) : Bool :=
 match P.underlying t with
 | some (.pointer _) => true
 | _ => false
section
variable {P : Program} {w : World} {l : KL} {dst : Option Tmp} {ty : TypeId} {pos : String} {aft : Array Go.Edge} {gd : Option (Nat × Bool)} {x y : Operand} {xt yt : TypeId} {p : Option Addr}
theorem Zls (ht : ptrB P xt = true) : (Op.equal xt (.pointer p) (.pointer none)).run P w = .ok p.isNone w := by
 unfold ptrB at ht
 split at ht
 ·rename_i e he
  have h : ∀ d, (Op.equalIn (d + 1) xt (.pointer p) (.pointer none)).run P w = .ok p.isNone w := fun d => by
   cases p <;> simp [Op.equalIn, run_underlying he]
  exact h 9999
 cases ht
theorem Zsl (ht : ptrB P xt = true) (hx : ev l x = some (.pointer p)) (hy : ev l y = some (.pointer none)) : Qd P l ⟨dst, .binOp .neq xt x y yt, ty, pos, aft, gd⟩ w (.bool (!p.isNone)) w := fun ρ hρ => by
 have e : binOp .neq xt (.pointer p) (.pointer none) = (do pure (.bool (!(← Op.equal xt (.pointer p) (.pointer none))))) := rfl
 simp [execOp, hρ _ _ hx, hρ _ _ hy, eqGuard, e, Zls ht]
end
theorem Qo {P : Program} {w : World} {l : KL} {dst : Option Tmp} {ty : TypeId} {pos : String} {aft : Array Go.Edge} {gd : Option (Nat × Bool)} {x : Operand} {s field off a n : Nat} {p : Addr} (hs : faB P s field = some off)
   (h : ev l x = some (.pointer (some (p.add a)))) (hn : n = a + off) : Qd P l ⟨dst, .fieldAddr s x field, ty, pos, aft, gd⟩ w (.pointer (some (p.add n))) w := by
 have := Zh (P := P) (w := w) (dst := dst) (ty := ty) (pos := pos) (aft := aft) (gd := gd) hs h
 rwa [add_add, ← hn] at this
section
variable {P : Program} {N : Nat} {Q : Po} {l : KL} {w : World} {ops : Array Oper} {rest : List Oper}
theorem Zas {c : Operand} {x y : Code} {b : Bool} (hc : ev l c = some (.bool b)) (hb : b = true) (ht : W P N x Q l w) : W P N (.cond c x y) Q l w := by subst hb; exact Qf hc ht
theorem Znf {c : Operand} {x y : Code} {b : Bool} (hc : ev l c = some (.bool b)) (hb : b = false) (hf : W P N y Q l w) : W P N (.cond c x y) Q l w := by subst hb; exact Zap hc hf
end
def Sep (v : Value) (vs : List Sv) : Prop := ∀ u ∈ vs, ∀ g ∈ bl u.v, g ∉ bl v
end Go.KLib

namespace Go.KLib
def Tks (w : World) (L : Nat) (v : Value) (ps : List Addr) (st : List Tr) : Prop := KdF w (fun b => L ≤ b ∧ b < w.heap.size ∧ b ∉ bl v) ps st.reverse
theorem Tks.nil (w : World) (L : Nat) (v : Value) : Tks w L v [] [] := ⟨rfl, fun _ _ _ h => by simp at h⟩
theorem KdF.ch {w w' : World} {F : Nat → Prop} {ps : List Addr} {ts : List Tr} {ws : List Nat} (h : KdF w F ps ts) (c : Ch ws w w') (hw : ∀ i, F i → i ∉ ws) : KdF w' F ps ts :=
 ⟨h.1, fun i q t a b => (h.2 i q t a b).ch c hw⟩
theorem KdF.mono {w : World} {F G : Nat → Prop} {ps : List Addr} {ts : List Tr} (h : KdF w F ps ts) (hF : ∀ i, F i → G i) : KdF w G ps ts :=
 ⟨h.1, fun i q t a b => (h.2 i q t a b).mono hF⟩
theorem KdF.drop {w : World} {F : Nat → Prop} {ps : List Addr} {ts : List Tr} (h : KdF w F ps ts) (k : Nat) : KdF w F (ps.drop k) (ts.drop k) :=
 ⟨by simp [h.1], fun i q t a b => h.2 (k + i) q t (by simpa using a) (by simpa using b)⟩
theorem KdF.take {w : World} {F : Nat → Prop} {ps : List Addr} {ts : List Tr} (h : KdF w F ps ts) (k : Nat) : KdF w F (ps.take k) (ts.take k) := by
 refine ⟨by simp [h.1], fun i q t a b => ?_⟩
 rw [List.getElem?_take] at a b
 split at a
 ·rename_i hi; rw [if_pos hi] at b; exact h.2 i q t a b
 cases a
theorem KdF.snoc {w : World} {F : Nat → Prop} {ps : List Addr} {ts : List Tr} {p : Addr} {t : Tr} (h : KdF w F ps ts) (ht : TrF w F p t) : KdF w F (ps ++ [p]) (ts ++ [t]) := by
 refine ⟨by simp [h.1], fun i q u a b => ?_⟩
 rcases Zbb a with ⟨a1, a2⟩ | ⟨a1, a2⟩
 ·rcases Zbb b with ⟨b1, b2⟩ | ⟨b1, b2⟩
  ·exact h.2 i q u a2 b2
  have := h.1; omega
 rcases Zbb b with ⟨b1, b2⟩ | ⟨b1, b2⟩
 ·have := h.1; omega
 subst a2 b2; exact ht
theorem Zua {st : List Tr} {tok : Token} (h0 : 0 ≤ arT tok) {n : Nat} (hn : (n : Int) = arT tok) (hl : n ≤ st.length) : push st tok = some (mkTr tok (st.take n).reverse :: st.drop n) ∧ n ≤ 2 := by
 unfold push
 rcases Zba tok with e | e | e | e <;> rw [e] at h0 hn ⊢
 ·omega
 ·obtain rfl : n = 0 := by omega
  exact ⟨rfl, by omega⟩
 ·obtain rfl : n = 1 := by omega
  match st, hl with
  | a :: r, _ => exact ⟨rfl, by omega⟩
 obtain rfl : n = 2 := by omega
 match st, hl with
 | a :: b :: r, _ => exact ⟨rfl, by omega⟩
theorem Tks.push {w0 w1 w2 : World} {v v1 v2 u : Value} {ps : List Addr} {st : List Tr} {tok : Token} {b k e ty L : Nat} (h : Tks w0 L v ps st) (hL : L ≤ w0.heap.size) (hv : ∀ g ∈ bl v, g < w0.heap.size) (c1 : Ch [] w0 w1)
   (hb : Blk w1 b ty [.int .i64 tok.kind, .int .i64 tok.letter, .int .i64 tok.low, .int .i64 tok.high, u]) (hb0 : w0.heap.size ≤ b) (hu : Ol acs e 1 w1 u (ps.drop k)) (hul : ∀ g ∈ bl u, w0.heap.size ≤ g)
   (b1 : bl v1 = bl v) (c2 : Ch (bl v1) w1 w2) (b2 : bl v2 = bl v1 ∨ bl v2 = [w1.heap.size]) (hok : 0 ≤ arT tok) (hk : (k : Int) = ps.length - arK tok.kind) :
   ∃ st', Go.KLib.push st tok = some st' ∧ Tks w2 L v2 (ps.take k ++ [⟨b, 0, none⟩]) st' ∧ st'.length = k + 1 := by
 have hl : ps.length = st.length := by have := h.1; simpa using this
 rw [← Zaz hok] at hk
 have hn : ((st.length - k : Nat) : Int) = arT tok := by have := Zba tok; omega
 obtain ⟨h1, h2⟩ := Zua (st := st) hok hn (Nat.sub_le _ _)
 refine ⟨_, h1, ?_, by simp only [List.length_cons, List.length_drop]; have := Zba tok; omega⟩
 have hF1 : KdF w1 (fun b => L ≤ b ∧ b < w1.heap.size ∧ b ∉ bl v) ps st.reverse := (KdF.ch h c1 (by simp)).mono fun i hi => ⟨hi.1, Nat.lt_of_lt_of_le hi.2.1 c1.size, hi.2.2⟩
 have er : (st.take (st.length - k)).reverse = st.reverse.drop k := by
  rw [List.reverse_take]; congr 1; have := Zba tok; omega
 have er2 : (st.drop (st.length - k)).reverse = st.reverse.take k := by
  rw [List.reverse_drop]; congr 1; have := Zba tok; omega
 have ht : TrF w1 (fun b => L ≤ b ∧ b < w1.heap.size ∧ b ∉ bl v) ⟨b, 0, none⟩ (mkTr tok (st.take (st.length - k)).reverse) := by
  rw [er]
  refine TrF.mk (v := u) (ps := ps.drop k) ⟨Nat.le_trans hL hb0, hb.lt, fun hm => by have := hv b hm; omega⟩ (fun j x hx => ?_) hu.ls (fun A n c hA _ => ?_) (hF1.drop k) (by rw [List.length_drop]; omega)
  ·rw [add_lit, hb.cell]; simpa [Token.cs] using hx
  subst hA
  have hg : A.block ∈ bl (.slice (some A) n c) := by simp [bl, Value.ownBlock]
  exact ⟨by have := hul _ hg; omega, hu.lt _ hg, fun hm => by have := hv _ hm; have := hul _ hg; omega⟩
 have hS := (hF1.take k).snoc ht
 have hS2 : KdF w2 (fun b => L ≤ b ∧ b < w1.heap.size ∧ b ∉ bl v) (ps.take k ++ [⟨b, 0, none⟩]) (st.reverse.take k ++ [mkTr tok (st.take (st.length - k)).reverse]) := hS.ch c2 fun i hi hm => hi.2.2 (b1 ▸ hm)
 show KdF w2 _ _ (mkTr tok _ :: _).reverse
 rw [List.reverse_cons, er2]
 refine hS2.mono fun i hi => ⟨hi.1, Nat.lt_of_lt_of_le hi.2.1 c2.size, fun hm => ?_⟩
 rcases b2 with e | e
 ·rw [e, b1] at hm; exact hi.2.2 hm
 rw [e] at hm; have := List.mem_singleton.1 hm; omega
theorem Tks.one {w : World} {v : Value} {ps : List Addr} {st : List Tr} {q : Addr} {L : Nat} (h : Tks w L v ps st) (hl : (ps.length : Int) = 1) (hq : ps[0]? = some q) : ∃ t, st = [t] ∧ TrAt w L w.heap.size q t := by
 have h1 : st.length = 1 := by have := h.1; simp at this; omega
 match st, h1 with
 | [t], _ => exact ⟨t, rfl, (h.2 0 q t hq rfl).mono fun _ h => ⟨h.1, h.2.1⟩⟩
theorem Tks.len {w : World} {v : Value} {ps : List Addr} {st : List Tr} {L : Nat} (h : Tks w L v ps st) : ps.length = st.length := by have := h.1; simpa using this
theorem Zfs {l : List Token} {k : Nat} {st : List Tr} (h : prs [] (l.take k) = some st) (hk : l.length ≤ k) (hl : ¬ (st.length : Int) = 1) : Qx l = none := by
 rw [Zhx h hk]
 match st with
 | [] => rfl
 | [t] => simp at hl
 | a :: b :: r => rfl
theorem Zoh {l : List Token} {k : Nat} {t : Tr} (h : prs [] (l.take k) = some [t]) (hk : l.length ≤ k) : Qx l = some t := by rw [Zhx h hk]
theorem Zjw {st : List Tr} {tok : Token} (h : Zeh tok = false ∨ (st.length : Int) - arK tok.kind < 0) : push st tok = none := by
 refine Zjt ?_
 rcases h with h | h
 ·exact .inl (by simpa [Zeh] using h)
 by_cases h0 : arT tok < 0
 ·exact .inl h0
 right; rw [Zaz (by omega)]; omega
theorem Zke {l : List Token} {t : Tr} (h : Qx l = some t) : true = isE l := by unfold isE; rw [h]; rfl
theorem Zes {l : List Token} (h : Qx l = none) : false = isE l := by unfold isE; rw [h]; rfl
def ivE (e : List Token) : Bool := decide (e.length ≤ 24) && isE e
end Go.KLib

namespace Go.KLib
theorem Okd.len {t : Tr} (h : Okd t) : ((t.tok.kind = 4 ∨ t.tok.kind = 5) → t.kids.length = 2) ∧ ((t.tok.kind = 6 ∨ t.tok.kind = 7) → t.kids.length = 1) ∧ (¬ (t.tok.kind = 4 ∨ t.tok.kind = 5 ∨ t.tok.kind = 6 ∨ t.tok.kind = 7) → t.kids.length = 0) := by
 have h1 := h.ar
 have h2 := Zaz (t := t.tok) (by rw [h1]; omega)
 rw [h1] at h2
 unfold arK at h2
 split at h2
 ·omega
 split at h2 <;> omega
theorem Okd.two {t : Tr} (h : Okd t) (hk : t.tok.kind = 4 ∨ t.tok.kind = 5) : ∃ k a b, t = .l2 k a b := by
 have := h.len.1 hk
 cases t with
 | l0 k => simp [Tr.kids] at this
 | l1 k a => simp [Tr.kids] at this
 | l2 k a b => exact ⟨k, a, b, rfl⟩
theorem Okd.one {t : Tr} (h : Okd t) (hk : t.tok.kind = 6 ∨ t.tok.kind = 7) : ∃ k a, t = .l1 k a := by
 have := h.len.2.1 hk
 cases t with
 | l0 k => simp [Tr.kids] at this
 | l1 k a => exact ⟨k, a, rfl⟩
 | l2 k a b => simp [Tr.kids] at this
theorem Okd.zero {t : Tr} (h : Okd t) (hk : ¬ (t.tok.kind = 4 ∨ t.tok.kind = 5 ∨ t.tok.kind = 6 ∨ t.tok.kind = 7)) : ∃ k, t = .l0 k := by
 have := h.len.2.2 hk
 cases t with
 | l0 k => exact ⟨k, rfl⟩
 | l1 k a => simp [Tr.kids] at this
 | l2 k a b => simp [Tr.kids] at this
theorem Okd.shape2 {t a b : Tr} (h : Okd t) (hk : t.tok.kind = 4 ∨ t.tok.kind = 5) (h0 : t.kids[0]? = some a) (h1 : t.kids[1]? = some b) : t = .l2 t.tok a b := by
 obtain ⟨k, x, y, rfl⟩ := h.two hk
 simp [Tr.kids] at h0 h1; subst h0 h1; rfl
theorem Okd.shape1 {t a : Tr} (h : Okd t) (hk : t.tok.kind = 6 ∨ t.tok.kind = 7) (h0 : t.kids[0]? = some a) : t = .l1 t.tok a := by
 obtain ⟨k, x, rfl⟩ := h.one hk
 simp [Tr.kids] at h0; subst h0; rfl
theorem Okd.shape0 {t : Tr} (h : Okd t) (hk : ¬ (t.tok.kind = 4 ∨ t.tok.kind = 5 ∨ t.tok.kind = 6 ∨ t.tok.kind = 7)) : t = .l0 t.tok := by
 obtain ⟨k, rfl⟩ := h.zero hk; rfl
theorem Tr.flat_kids (t : Tr) : t.flat = (t.kids.map Tr.flat).flatten ++ [t.tok] := by
 cases t <;> simp [Tr.flat, Tr.kids, Tr.tok]
theorem Tr.flat_pos (t : Tr) : 0 < t.flat.length := by rw [Tr.flat_len]; exact t.sz_pos
theorem Zka {t : Tr} {l : List Token} {n : Nat} {y : Token} (hl : l = t.flat) (hn : n + 1 = l.length) (hy : l[n]? = some y) : y = t.tok := by
 rw [hl, Tr.flat_kids] at hy
 rw [hl, Tr.flat_kids, List.length_append, List.length_singleton] at hn
 rw [List.getElem?_append_right (by omega)] at hy
 have : n - (t.kids.map Tr.flat).flatten.length = 0 := by omega
 rw [this] at hy
 simpa using hy.symm
def Xy (ts : List Tr) : List Token := (ts.map Tr.flat).flatten
theorem Ziz (ts : List Tr) (t : Tr) : Xy (ts ++ [t]) = Xy ts ++ t.flat := by simp [Xy]
theorem Zlg (ts us : List Tr) : Xy (ts ++ us) = Xy ts ++ Xy us := by simp [Xy]
theorem Zlf : ∀ ts : List Tr, ts.length ≤ (Xy ts).length
 | [] => Nat.le_refl _
 | t :: ts => by
  have h1 := Zlf ts
  have h2 := t.flat_pos
  have h3 : (Xy (t :: ts)).length = t.flat.length + (Xy ts).length := by simp [Xy]
  rw [h3, List.length_cons]; omega
theorem Zib {l p : List Token} {ts : List Tr} {k : Int} (hp : l.take k.toNat = p ++ Xy ts) (h0 : 0 ≤ k) : (ts.length : Int) ≤ k := by
 have h1 := congrArg List.length hp
 rw [List.length_take, List.length_append] at h1
 have := Zlf ts
 omega
theorem Zoe {l p : List Token} {ts : List Tr} {k : Int} {y : Token} (hp : l.take k.toNat = p ++ Xy ts) (ho : ∀ x ∈ ts, Okd x) (hn : 0 < ts.length) (h0 : 0 ≤ k) (hk : k ≤ l.length) (hy : l[(k - 1).toNat]? = some y) :
   ∃ ts', l.take (k - 1).toNat = p ++ Xy ts' ∧ (ts'.length : Int) = ts.length - 1 + arT y ∧ (∀ x ∈ ts', Okd x) := by
 have hk1 := Zib hp h0
 obtain ⟨n, hn'⟩ : ∃ n : Nat, k = n + 1 := ⟨(k - 1).toNat, by omega⟩
 subst hn'
 have e1 : ((n : Int) + 1 - 1).toNat = n := by omega
 have e2 : ((n : Int) + 1).toNat = n + 1 := by omega
 rw [e1] at hy ⊢
 rw [e2, Zaa hy] at hp
 have hne : ts ≠ [] := by intro e; rw [e] at hn; simp at hn
 obtain ⟨us, t, rfl⟩ : ∃ us t, ts = us ++ [t] := ⟨ts.dropLast, ts.getLast hne, (List.dropLast_concat_getLast hne).symm⟩
 rw [Ziz, Tr.flat_kids, ← List.append_assoc, ← List.append_assoc] at hp
 obtain ⟨h1, h2⟩ := List.append_inj' hp rfl
 have hy2 : y = t.tok := by simpa using h2
 have hot := ho t (by simp)
 refine ⟨us ++ t.kids, ?_, ?_, fun x hx => ?_⟩
 ·rw [h1, Zlg, List.append_assoc]; rfl
 ·rw [hy2, hot.ar]; simp
 rcases List.mem_append.1 hx with hx | hx
 ·exact ho x (by simp [hx])
 obtain ⟨i, hi, rfl⟩ := List.getElem_of_mem hx
 exact hot.kid (List.getElem?_eq_getElem hi)
theorem Zqu {l p : List Token} {ts : List Tr} {k n : Int} (hp : l.take k.toNat = p ++ Xy ts) (hn : n = ts.length) (h : ¬ 0 < n) (h0 : 0 ≤ k) (hk : k ≤ l.length) : k = (p.length : Int) := by
 obtain rfl : ts = [] := List.eq_nil_of_length_eq_zero (by omega)
 have h1 := congrArg List.length hp
 simp [Xy] at h1
 omega
theorem Zny {l a b : List Token} {k : Token} {n : Nat} (hl : l = a ++ b ++ [k]) (hn : n = a.length) : l.take n = a := by subst hl hn; simp
theorem Ziv {l a b : List Token} {k : Token} {n : Nat} (hl : l = a ++ b ++ [k]) (hn : n + 1 = l.length) : l.take n = a ++ b := by
 subst hl
 have : n = (a ++ b).length := by simp at hn ⊢; omega
 rw [this]; exact List.take_left
theorem Znu {l a b : List Token} {k : Token} {n m : Nat} (hl : l = a ++ b ++ [k]) (hn : n = a.length) (hm : m = b.length) : (l.drop n).take m = b := by
 subst hl hn hm; rw [List.append_assoc]; simp
theorem Zol {l a : List Token} {k : Token} {n : Nat} (hl : l = a ++ [k]) (hn : n + 1 = l.length) : l.take n = a := by
 subst hl
 have : n = a.length := by simp at hn ⊢; omega
 rw [this]; exact List.take_left
theorem Zwt {l a b : List Token} {k : Token} (hl : l = a ++ b ++ [k]) : l.length = a.length + b.length + 1 := by subst hl; simp; omega
theorem Zwq {l a : List Token} {k : Token} (hl : l = a ++ [k]) : l.length = a.length + 1 := by subst hl; simp
theorem Okd.k2 {t : Tr} {l : List Token} {y : Token} (h : Okd t) (h2 : t.kids.length = 2) (ht : y = t.tok) (hl : l = t.flat) : ∃ a b, t = .l2 y a b ∧ Okd a ∧ Okd b ∧ l = a.flat ++ b.flat ++ [y] ∧ l.length = a.flat.length + b.flat.length + 1 := by
 subst ht hl
 cases t <;> simp [Tr.kids] at h2
 rename_i k a b
 exact ⟨a, b, rfl, h.2.1, h.2.2, rfl, Zwt rfl⟩
theorem Okd.k1 {t : Tr} {l : List Token} {y : Token} (h : Okd t) (h2 : t.kids.length = 1) (ht : y = t.tok) (hl : l = t.flat) : ∃ a, t = .l1 y a ∧ Okd a ∧ l = a.flat ++ [y] ∧ l.length = a.flat.length + 1 := by
 subst ht hl
 cases t <;> simp [Tr.kids] at h2
 rename_i k a
 exact ⟨a, rfl, h.2, rfl, Zwq rfl⟩
theorem Okd.k0 {t : Tr} {y : Token} (h2 : t.kids.length = 0) (ht : y = t.tok) : t = .l0 y := by
 subst ht
 cases t <;> simp [Tr.kids] at h2
 rfl
section
variable {x a b : Tr}
end
theorem Zws {e : List Token} (h : isE e = true) : ∃ t, Qx e = some t ∧ Okd t ∧ e = t.flat := by
 unfold isE at h
 cases ht : Qx e with
 | none => rw [ht] at h; cases h
 | some t => exact ⟨t, rfl, (Zdv ht).1, (Zdv ht).2.symm⟩
theorem Zoi {ts : List Tr} {k : Nat} {t : Tr} (h : ts[k]? = some t) : Xy (ts.take (k + 1)) = Xy (ts.take k) ++ t.flat := by rw [Zaa h, Ziz]
theorem Zky {t : Tr} {k : Nat} (h : t.kids.length ≤ k) : Xy (t.kids.take k) ++ [t.tok] = t.flat := by rw [List.take_of_length_le h, Tr.flat_kids]; rfl
theorem Zrr {t : Tr} {k : Nat} {c : Tr} (h : t.kids[k]? = some c) : (Xy (t.kids.take k)).length + c.sz + 1 ≤ t.sz := by
 cases t with
 | l0 k => simp [Tr.kids] at h
 | l1 q a =>
  match k with
  | 0 => simp [Tr.kids] at h; subst h; simp [Tr.sz, Xy]
  | k + 1 => simp [Tr.kids] at h
 | l2 q a b =>
  match k with
  | 0 => simp [Tr.kids] at h; subst h; simp [Tr.sz, Xy]
  | 1 => simp [Tr.kids] at h; subst h; simp [Tr.sz, Tr.kids, Xy, Tr.flat_len]
  | k + 2 => simp [Tr.kids] at h
theorem Zew (t : Tr) (k : Nat) : (Xy (t.kids.take k)).length + 1 ≤ t.sz := by
 have h := Tr.flat_kids t
 have h1 := congrArg List.length h
 rw [Tr.flat_len, List.length_append, List.length_singleton] at h1
 have h2 : (t.kids.map Tr.flat).flatten = Xy (t.kids.take k) ++ Xy (t.kids.drop k) := by rw [← Zlg, List.take_append_drop]; rfl
 rw [h2, List.length_append] at h1
 omega
theorem Tr.k0 {t : Tr} (h : t.kids.length = 0) : ∃ k, t = .l0 k := by
 cases t <;> simp [Tr.kids] at h
 exact ⟨_, rfl⟩
theorem Tr.k1 {t : Tr} (h : t.kids.length = 1) : ∃ k a, t = .l1 k a := by
 cases t <;> simp [Tr.kids] at h
 exact ⟨_, _, rfl⟩
theorem Tr.k2 {t : Tr} (h : t.kids.length = 2) : ∃ k a b, t = .l2 k a b := by
 cases t <;> simp [Tr.kids] at h
 exact ⟨_, _, _, rfl⟩
theorem Tr.kids_le (t : Tr) : t.kids.length ≤ 2 := by cases t <;> simp [Tr.kids]
end Go.KLib

namespace Go.KLib
section
variable {P : Program} {w : World} {l : KL} {dst : Option Tmp} {ty : TypeId} {pos : String} {aft : Array Go.Edge} {gd : Option (Nat × Bool)} {x y : Operand} {ts : Array TypeId} {k k' : IntKind} {a b : Int}
theorem Zvj (hx : ev l x = some (.int k a)) (hy : ev l y = some (.int k' b)) : Qd P l ⟨dst, .call { callee := .builtin .max, args := #[x, y], argTypes := ts }, ty, pos, aft, gd⟩ w (.int k (if b > a then b else a)) w := fun ρ hρ => by
 simp [execOp, resolve, invoke, builtin, hρ _ _ hx, hρ _ _ hy, run_max_int2]
theorem Zlv (hx : ev l x = some (.int k a)) (hy : ev l y = some (.int k' b)) : Qd P l ⟨dst, .call { callee := .builtin .min, args := #[x, y], argTypes := ts }, ty, pos, aft, gd⟩ w (.int k (if b < a then b else a)) w := fun ρ hρ => by
 simp [execOp, resolve, invoke, builtin, hρ _ _ hx, hρ _ _ hy, run_min_int2]
end
def KdN (w : World) (L bo : Nat) (v : Value) (ps : List Addr) (ts : List Tr) : Prop := KdF w (fun b => L ≤ b ∧ b < w.heap.size ∧ b ≠ bo ∧ b ∉ bl v) ps ts
theorem KdN.nil (w : World) (L bo : Nat) (v : Value) : KdN w L bo v [] [] := ⟨rfl, fun _ _ _ h => by simp at h⟩
theorem KdN.grow {w0 w1 w2 : World} {L bo a b : Nat} {v v2 : Value} {ps : List Addr} {ts : List Tr} {q : Addr} {t : Tr} (h : KdN w0 L bo v ps ts) (hL : L ≤ w0.heap.size) (hv : ∀ g ∈ bl v, g < w0.heap.size) (hbo : bo < w0.heap.size) (c1 : Ch [] w0 w1)
   (hq : TrAt w1 a b q t) (ha : w0.heap.size ≤ a) (hb : b ≤ w1.heap.size) (c2 : Ch (bl v) w1 w2) (b2 : bl v2 = bl v ∨ bl v2 = [w1.heap.size]) : KdN w2 L bo v2 (ps ++ [q]) (ts ++ [t]) := by
 have h1 : KdF w1 (fun b => L ≤ b ∧ b < w1.heap.size ∧ b ≠ bo ∧ b ∉ bl v) ps ts := (KdF.ch h c1 (by simp)).mono fun i hi => ⟨hi.1, Nat.lt_of_lt_of_le hi.2.1 c1.size, hi.2.2⟩
 have h2 := h1.snoc (t := t) (p := q) (hq.mono fun i hi => ⟨by omega, by omega, by omega, fun hm => by have := hv i hm; omega⟩)
 have h3 := h2.ch c2 fun i hi hm => hi.2.2.2 hm
 refine h3.mono fun i hi => ⟨hi.1, Nat.lt_of_lt_of_le hi.2.1 c2.size, hi.2.2.1, fun hm => ?_⟩
 rcases b2 with e | e
 ·rw [e] at hm; exact hi.2.2.2 hm
 rw [e] at hm; have := List.mem_singleton.1 hm; omega
theorem KdN.bo {w0 w1 : World} {L bo : Nat} {v : Value} {ps : List Addr} {ts : List Tr} (h : KdN w0 L bo v ps ts) (c : Ch [bo] w0 w1) : KdN w1 L bo v ps ts :=
 (KdF.ch h c fun i hi hm => hi.2.2.1 (List.mem_singleton.1 hm)).mono fun i hi => ⟨hi.1, Nat.lt_of_lt_of_le hi.2.1 c.size, hi.2.2⟩
theorem KdN.row {w0 w1 : World} {L bo : Nat} {v : Value} {ps : List Addr} {ts : List Tr} (h : KdN w0 L bo v ps ts) (c : Ch (bl v) w0 w1) : KdN w1 L bo v ps ts :=
 (KdF.ch h c fun i hi hm => hi.2.2.2 hm).mono fun i hi => ⟨hi.1, Nat.lt_of_lt_of_le hi.2.1 c.size, hi.2.2⟩
theorem KdN.done {w : World} {L bo e ty B : Nat} {v : Value} {ps : List Addr} {ts : List Tr} {k : Token} (h : KdN w L bo v ps ts) (hm : Blk w bo ty [.int .i64 k.kind, .int .i64 k.letter, .int .i64 k.low, .int .i64 k.high, v]) (hL : L ≤ bo)
   (hv : Ol acs e 1 w v ps) (hl : ∀ g ∈ bl v, L ≤ g) (h2 : ps.length ≤ 2) (hB : w.heap.size ≤ B) : TrAt w L B ⟨bo, 0, none⟩ (mkTr k ts) := by
 refine TrF.mk (v := v) (ps := ps) ⟨hL, Nat.lt_of_lt_of_le hm.lt hB⟩ (fun j x hx => ?_) hv.ls (fun A n c hA _ => ?_) (KdF.mono h fun i hi => ⟨hi.1, Nat.lt_of_lt_of_le hi.2.1 hB⟩) h2
 ·rw [add_lit, hm.cell]; simpa [Token.cs] using hx
 subst hA
 have hg : A.block ∈ bl (.slice (some A) n c) := by simp [bl, Value.ownBlock]
 exact ⟨hl _ hg, Nat.lt_of_lt_of_le (hv.lt _ hg) hB⟩
end Go.KLib

namespace Go.KLib
theorem Okd.kk2 {x : Tr} (h : Okd x) (h2 : x.kids.length = 2) : ∃ a b, x.kids[0]? = some a ∧ x.kids[1]? = some b ∧ Okd a ∧ Okd b ∧ x.sz = a.sz + b.sz + 1 ∧ a.flat.length = a.sz ∧ b.flat.length = b.sz := by
 obtain ⟨k, a, b, rfl⟩ := Tr.k2 h2
 exact ⟨a, b, rfl, rfl, h.2.1, h.2.2, rfl, a.flat_len, b.flat_len⟩
theorem Okd.kk1 {x : Tr} (h : Okd x) (h2 : x.kids.length = 1) : ∃ a, x.kids[0]? = some a ∧ Okd a ∧ x.sz = a.sz + 1 ∧ a.flat.length = a.sz := by
 obtain ⟨k, a, rfl⟩ := Tr.k1 h2
 exact ⟨a, rfl, h.2, rfl, a.flat_len⟩
section
variable {q : Int} {x a b : Tr}
theorem Okd.r7 (h : Okd x) (hk : x.tok.kind = 7) : (1 ≤ x.tok.high ∧ x.tok.high ≤ 3) ∧ 0 ≤ x.tok.low ∧ x.tok.low ≤ x.tok.high := by
 have h1 : arT x.tok = 1 := by rw [h.ar, h.len.2.1 (.inr hk)]; rfl
 unfold arT at h1
 rw [if_neg (by omega), if_neg (by omega), if_neg (by omega), if_neg (by omega), if_pos hk] at h1
 split at h1
 ·rename_i h2; exact h2.2
 cases h1
end
section
variable {e : List Token} {x : Int} {t : Tr}
end
end Go.KLib

namespace Go.KLib
def Xt : Tr → Int
 | .l0 _ => 1
 | .l1 t a => if t.kind = 7 then (if (Xt a + 3) * t.high + 1 < 100000 then (Xt a + 3) * t.high + 1 else 100000) else (if Xt a + 1 < 100000 then Xt a + 1 else 100000)
 | .l2 _ a b => if Xt a + Xt b + 1 < 100000 then Xt a + Xt b + 1 else 100000
def Qz (x : Tr) : Int → Nat → Tr
 | _, 0 => .l0 ⟨2, 0, 0, 0⟩
 | low, h + 1 => if low > 0 then .l2 ⟨4, 0, 0, 0⟩ x (Qz x (if low - 1 > 0 then low - 1 else 0) h) else .l2 ⟨5, 0, 0, 0⟩ (.l2 ⟨4, 0, 0, 0⟩ x (Qz x (if low - 1 > 0 then low - 1 else 0) h)) (.l0 ⟨2, 0, 0, 0⟩)
def Xl : Tr → Tr
 | .l0 t => .l0 t
 | .l1 t a => if t.kind = 7 then Qz (Xl a) t.low t.high.toNat else .l1 t (Xl a)
 | .l2 t a b => .l2 t (Xl a) (Xl b)
theorem Xv : ∀ {t : Tr}, Okd t → 1 ≤ Xt t ∧ Xt t ≤ 100000
 | .l0 _, _ => by simp [Xt]
 | .l1 t a, h => by
  have ih := Xv h.2
  unfold Xt
  split
  ·rename_i hk
   have r := h.r7 hk
   have r1 : 1 ≤ t.high ∧ t.high ≤ 3 := r.1
   have h1 := Int.mul_le_mul_of_nonneg_left (c := Xt a + 3) r1.1 (by omega)
   rw [Int.mul_one] at h1
   split <;> omega
  split <;> omega
 | .l2 t a b, h => by
  have ia := Xv h.2.1
  have ib := Xv h.2.2
  unfold Xt
  split <;> omega
theorem Zmi (x : Tr) : ∀ (low : Int) (h : Nat), (Qz x low h).sz ≤ (x.sz + 3) * h + 1
 | _, 0 => by simp [Qz, Tr.sz]
 | low, h + 1 => by
  have ih := Zmi x (if low - 1 > 0 then low - 1 else 0) h
  have e : (x.sz + 3) * (h + 1) = (x.sz + 3) * h + (x.sz + 3) := Nat.mul_succ _ _
  rw [e]
  unfold Qz
  split <;> simp only [Tr.sz] <;> omega
theorem Zjm {x : Tr} {n : Int} (low : Int) (hx : x.sz ≤ 5000) (hh : n ≤ 3) : (Qz x low n.toNat).sz ≤ 20000 := by
 have h1 := Zmi x low n.toNat
 have h2 : (x.sz + 3) * n.toNat ≤ (x.sz + 3) * 3 := Nat.mul_le_mul_left _ (by omega)
 omega
theorem Zbu : ∀ {t : Tr}, Okd t → Xt t ≤ 5000 → ((Xl t).sz : Int) ≤ Xt t
 | .l0 _, _, _ => by simp [Xt, Xl, Tr.sz]
 | .l1 t a, h, hb => by
  have ih := Xv h.2
  unfold Xt at hb ⊢
  unfold Xl
  split
  ·rename_i hk
   rw [if_pos hk] at hb
   have r : 1 ≤ t.high ∧ t.high ≤ 3 := (h.r7 hk).1
   have h1 := Int.mul_le_mul_of_nonneg_left (c := Xt a + 3) r.1 (by omega)
   rw [Int.mul_one] at h1
   have hc : (Xt a + 3) * t.high + 1 < 100000 := by
    apply Classical.byContradiction; intro hc; rw [if_neg hc] at hb; omega
   rw [if_pos hc] at hb ⊢
   have ie := Zbu h.2 (by omega)
   have ht := Zmi (Xl a) t.low t.high.toNat
   have h2 : ((((Xl a).sz + 3) * t.high.toNat : Nat) : Int) ≤ (Xt a + 3) * t.high := by
    rw [Int.natCast_mul, Int.toNat_of_nonneg (by omega)]
    exact Int.mul_le_mul_of_nonneg_right (by omega) (by omega)
   omega
  rename_i hk
  rw [if_neg hk] at hb
  have hc : Xt a + 1 < 100000 := by
   apply Classical.byContradiction; intro hc; rw [if_neg hc] at hb; omega
  rw [if_pos hc] at hb ⊢
  have ie := Zbu h.2 (by omega)
  simp only [Tr.sz]; omega
 | .l2 t a b, h, hb => by
  have ia := Xv h.2.1
  have ib := Xv h.2.2
  unfold Xt at hb ⊢
  have hc : Xt a + Xt b + 1 < 100000 := by
   apply Classical.byContradiction; intro hc; rw [if_neg hc] at hb; omega
  rw [if_pos hc] at hb ⊢
  have ea := Zbu h.2.1 (by omega)
  have eb := Zbu h.2.2 (by omega)
  simp only [Xl, Tr.sz]; omega
theorem Zfl {t k : Tr} {i : Nat} (h : Okd t) (hb : Xt t ≤ 5000) (hk : t.kids[i]? = some k) : Xt k ≤ 5000 := by
 cases t with
 | l0 q => simp [Tr.kids] at hk
 | l1 q a =>
  have ih := Xv h.2
  match i with
  | 0 =>
   simp [Tr.kids] at hk; subst hk
   unfold Xt at hb
   split at hb
   ·rename_i h7
    have r : 1 ≤ q.high ∧ q.high ≤ 3 := (h.r7 h7).1
    have h1 := Int.mul_le_mul_of_nonneg_left (c := Xt a + 3) r.1 (by omega)
    rw [Int.mul_one] at h1
    split at hb <;> omega
   split at hb <;> omega
  | i + 1 => simp [Tr.kids] at hk
 | l2 q a b =>
  have ia := Xv h.2.1
  have ib := Xv h.2.2
  unfold Xt at hb
  match i with
  | 0 => simp [Tr.kids] at hk; subst hk; split at hb <;> omega
  | 1 => simp [Tr.kids] at hk; subst hk; split at hb <;> omega
  | i + 2 => simp [Tr.kids] at hk
section
variable {x a b : Tr} {low high : Int}
theorem tim0 (h : high = 0) : .l0 ⟨2, 0, 0, 0⟩ = Qz x low high.toNat := by subst h; rfl
theorem timp (h : ¬ high = 0) (h0 : 0 ≤ high) (hl : low > 0) : .l2 ⟨4, 0, 0, 0⟩ x (Qz x (if low - 1 > 0 then low - 1 else 0) (high - 1).toNat) = Qz x low high.toNat := by
 rw [show high.toNat = (high - 1).toNat + 1 by omega, Qz, if_pos hl]
theorem timn (h : ¬ high = 0) (h0 : 0 ≤ high) (hl : ¬ low > 0) : .l2 ⟨5, 0, 0, 0⟩ (.l2 ⟨4, 0, 0, 0⟩ x (Qz x (if low - 1 > 0 then low - 1 else 0) (high - 1).toNat)) (.l0 ⟨2, 0, 0, 0⟩) = Qz x low high.toNat := by
 rw [show high.toNat = (high - 1).toNat + 1 by omega, Qz, if_neg hl]
theorem exp2 (h : Okd x) (hk : x.tok.kind = 4 ∨ x.tok.kind = 5) (h0 : x.kids[0]? = some a) (h1 : x.kids[1]? = some b) : .l2 x.tok (Xl a) (Xl b) = Xl x := by rw [h.shape2 hk h0 h1]; rfl
theorem exp6 (h : Okd x) (hk : x.tok.kind = 6) (h0 : x.kids[0]? = some a) : .l1 x.tok (Xl a) = Xl x := by
 rw [h.shape1 (by omega) h0]
 have h6 : ¬ x.tok.kind = 7 := by omega
 simp only [Xl, if_neg h6]; rfl
theorem exp7 (h : Okd x) (hk : x.tok.kind = 7) (h0 : x.kids[0]? = some a) : Qz (Xl a) x.tok.low x.tok.high.toNat = Xl x := by
 rw [h.shape1 (by omega) h0]
 show Qz (Xl a) x.tok.low x.tok.high.toNat = _
 simp only [Xl, if_pos hk]
theorem exp0 (h : Okd x) (hk : ¬ (x.tok.kind = 4 ∨ x.tok.kind = 5 ∨ x.tok.kind = 6 ∨ x.tok.kind = 7)) : .l0 x.tok = Xl x := by rw [h.shape0 hk]; rfl
theorem bnd2 (h : Okd x) (hk : x.tok.kind = 4 ∨ x.tok.kind = 5) (h0 : x.kids[0]? = some a) (h1 : x.kids[1]? = some b) : (if Xt a + Xt b + 1 < 100000 then Xt a + Xt b + 1 else 100000) = Xt x := by rw [h.shape2 hk h0 h1]; rfl
theorem bnd6 (h : Okd x) (hk : x.tok.kind = 6) (h0 : x.kids[0]? = some a) : (if Xt a + 1 < 100000 then Xt a + 1 else 100000) = Xt x := by
 rw [h.shape1 (by omega) h0]
 have h6 : ¬ x.tok.kind = 7 := by omega
 simp only [Xt, if_neg h6]
theorem bnd7 (h : Okd x) (hk : x.tok.kind = 7) (h0 : x.kids[0]? = some a) : (if (Xt a + 3) * x.tok.high + 1 < 100000 then (Xt a + 3) * x.tok.high + 1 else 100000) = Xt x := by
 rw [h.shape1 (by omega) h0]
 show (if (Xt a + 3) * x.tok.high + 1 < 100000 then (Xt a + 3) * x.tok.high + 1 else 100000) = _
 simp only [Xt, if_pos hk]
theorem bnd0 (h : Okd x) (hk : ¬ (x.tok.kind = 4 ∨ x.tok.kind = 5 ∨ x.tok.kind = 6 ∨ x.tok.kind = 7)) : 1 = Xt x := by rw [h.shape0 hk]; rfl
end
def bndS (x : Tr) (i : Nat) : Int := ((x.kids.take i).map fun k => if x.tok.kind = 7 then (Xt k + 3) * x.tok.high else Xt k).sum
theorem Zlh {x k : Tr} {i : Nat} (h : x.kids[i]? = some k) : bndS x (i + 1) = bndS x i + (if x.tok.kind = 7 then (Xt k + 3) * x.tok.high else Xt k) := by
 unfold bndS; rw [Zaa h, List.map_append]; simp
theorem Zsg {x : Tr} {i : Nat} (h : Okd x) (hi : x.kids.length ≤ i) : (if 100000 < 1 + bndS x i then 100000 else 1 + bndS x i) = Xt x := by
 unfold bndS; rw [List.take_of_length_le hi]
 have hl := h.len
 by_cases h4 : x.tok.kind = 4 ∨ x.tok.kind = 5
 ·obtain ⟨k, a, b, rfl⟩ := h.two h4
  have h7 : ¬ (Tr.l2 k a b).tok.kind = 7 := by omega
  simp only [Tr.kids, List.map_cons, List.map_nil, List.sum_cons, List.sum_nil, if_neg h7, Xt]
  split <;> split <;> omega
 by_cases h6 : x.tok.kind = 6 ∨ x.tok.kind = 7
 ·obtain ⟨k, a, rfl⟩ := h.one h6
  simp only [Tr.kids, List.map_cons, List.map_nil, List.sum_cons, List.sum_nil, Xt]
  show (if 100000 < 1 + ((if k.kind = 7 then (Xt a + 3) * k.high else Xt a) + 0) then 100000 else 1 + ((if k.kind = 7 then (Xt a + 3) * k.high else Xt a) + 0)) = _
  by_cases h7 : k.kind = 7
  ·simp only [if_pos h7]; split <;> split <;> omega
  simp only [if_neg h7]; split <;> split <;> omega
 obtain ⟨k, rfl⟩ := h.zero (by omega)
 rfl
theorem Zrl {x : Tr} {i : Nat} (h : Okd x) : 0 ≤ bndS x i ∧ bndS x i ≤ 400000 := by
 have hl := x.kids_le
 unfold bndS
 have key : ∀ (l : List Tr), (∀ k ∈ l, Okd k) → l.length ≤ 2 → (x.tok.kind = 7 → l.length ≤ 1) → 0 ≤ (l.map fun k => if x.tok.kind = 7 then (Xt k + 3) * x.tok.high else Xt k).sum ∧ (l.map fun k => if x.tok.kind = 7 then (Xt k + 3) * x.tok.high else Xt k).sum ≤ 400000 := by
  intro l hk h2 h7
  match l, hk, h2, h7 with
  | [], _, _, _ => simp
  | [a], hk, _, _ =>
   have ia := Xv (hk a (by simp))
   by_cases e7 : x.tok.kind = 7
   ·have r := (h.r7 e7).1
    have h1 : 0 ≤ (Xt a + 3) * x.tok.high := Int.mul_nonneg (by omega) (by omega)
    have h2 : (Xt a + 3) * x.tok.high ≤ 100003 * 3 := Int.mul_le_mul (by omega) r.2 (by omega) (by omega)
    simp [e7]; omega
   simp [e7]; omega
  | [a, b], hk, _, h7 =>
   have ia := Xv (hk a (by simp))
   have ib := Xv (hk b (by simp))
   by_cases e7 : x.tok.kind = 7
   ·have := h7 e7; simp at this
   simp [e7]; omega
  | a :: b :: c :: r, _, h2, _ => simp at h2
 refine key _ (fun k hk => ?_) (by rw [List.length_take]; omega) (fun h7 => by rw [List.length_take]; have := h.len.2.1 (.inr h7); omega)
 obtain ⟨j, hj, rfl⟩ := List.getElem_of_mem (List.mem_of_mem_take hk)
 exact h.kid (List.getElem?_eq_getElem hj)
def Qc (e : List Token) : List Token × Bool :=
 match Qx e with
 | some t => if e.length ≤ 24 ∧ Xt t ≤ 5000 ∧ (Xl t).sz ≤ 400 then ((Xl t).flat, true) else ([], false)
 | none => ([], false)
section
variable {e : List Token} {t : Tr}
theorem Zbk (h : Qx e = some t) (h1 : e.length ≤ 24) (h2 : Xt t ≤ 5000) (h3 : (Xl t).sz ≤ 400) : Qc e = ((Xl t).flat, true) := by unfold Qc; rw [h]; simp [h1, h2, h3]
theorem Zbj (h : ivE e = false) : Qc e = ([], false) := by
 unfold ivE at h; unfold Qc
 cases ht : Qx e with
 | none => rfl
 | some t =>
  simp only
  rw [if_neg]
  intro c
  rw [decide_eq_true c.1, ← Zke ht] at h
  cases h
theorem Zah (h : Qx e = some t) (h2 : ¬ Xt t ≤ 5000) : Qc e = ([], false) := by unfold Qc; rw [h]; simp only; rw [if_neg (fun c => h2 c.2.1)]
theorem Zaj (h : Qx e = some t) (h2 : ¬ (Xl t).sz ≤ 400) : Qc e = ([], false) := by unfold Qc; rw [h]; simp only; rw [if_neg (fun c => h2 c.2.2)]
theorem Zkn (h : ivE e = true) : ∃ t, Qx e = some t ∧ Okd t ∧ e = t.flat ∧ e.length ≤ 24 := by
 unfold ivE at h
 rw [Bool.and_eq_true] at h
 obtain ⟨t, a, b, c⟩ := Zws h.2
 exact ⟨t, a, b, c, of_decide_eq_true h.1⟩
theorem Zsq (h : ivE e = true) (hn : Qx e = none) : False := by
 obtain ⟨t, a, _⟩ := Zkn h; rw [hn] at a; cases a
theorem Zhc (e : List Token) : (Qc e).1.length ≤ 400 := by
 unfold Qc
 cases Qx e with
 | none => simp
 | some t =>
  simp only
  split
  ·rename_i h; rw [Tr.flat_len]; exact h.2.2
  simp
end
theorem TrAt.mk {w : World} {L B bo e ty : Nat} {k : Token} {v : Value} {ps : List Addr} {ts : List Tr} (hm : Blk w bo ty [.int .i64 k.kind, .int .i64 k.letter, .int .i64 k.low, .int .i64 k.high, v]) (hL : L ≤ bo)
   (hv : Ol acs e 1 w v ps) (hl : ∀ g ∈ bl v, L ≤ g) (hk : Kd w L B ps ts) (h2 : ps.length ≤ 2) (hB : B ≤ w.heap.size) : TrAt w L w.heap.size ⟨bo, 0, none⟩ (mkTr k ts) := by
 refine TrF.mk (v := v) (ps := ps) ⟨hL, hm.lt⟩ (fun j x hx => ?_) hv.ls (fun A n c hA _ => ?_) ⟨hk.1, fun i q t a b => ((hk.2 i q t a b).up (Nat.le_refl _) hB)⟩ h2
 ·rw [add_lit, hm.cell]; simpa [Token.cs] using hx
 subst hA
 have hg : A.block ∈ bl (.slice (some A) n c) := by simp [bl, Value.ownBlock]
 exact ⟨hl _ hg, hv.lt _ hg⟩
theorem TrAt.lb {w : World} {L B : Nat} {p : Addr} {t : Tr} (h : TrAt w L B p t) : L < B := by
 cases t with
 | l0 t => obtain ⟨h0, _⟩ := h; exact Nat.lt_of_le_of_lt h0.1 h0.2
 | l1 t a => obtain ⟨h0, _⟩ := h; exact Nat.lt_of_le_of_lt h0.1 h0.2
 | l2 t a b => obtain ⟨h0, _⟩ := h; exact Nat.lt_of_le_of_lt h0.1 h0.2
theorem Zrq {w : World} {L bo e ty B : Nat} {v : Value} {ps : List Addr} {t : Tr} (h : KdN w L bo v ps (t.kids.map Xl)) (hm : Blk w bo ty [.int .i64 t.tok.kind, .int .i64 t.tok.letter, .int .i64 t.tok.low, .int .i64 t.tok.high, v]) (hL : L ≤ bo)
   (hv : Ol acs e 1 w v ps) (hl : ∀ g ∈ bl v, L ≤ g) (hB : w.heap.size ≤ B) (hk : ¬ t.tok.kind = 7) : TrAt w L B ⟨bo, 0, none⟩ (Xl t) := by
 have h2 : ps.length ≤ 2 := by
  have h3 := t.kids_le
  have h4 := h.1
  rw [h4]; simpa using h3
 have h5 := h.done hm hL hv hl h2 hB
 cases t with
 | l0 q => exact h5
 | l1 q a =>
  have hk' : ¬ q.kind = 7 := hk
  have : Xl (.l1 q a) = .l1 q (Xl a) := by simp only [Xl, if_neg hk']
  rw [this]; exact h5
 | l2 q a b => exact h5
end Go.KLib

namespace Go.KLib
section
variable {α : Type} {cs : α → List Value} {e k lo hi : Nat} {w w' : World} {vs : List Sv} {xs : List (List α)}
theorem Od.set {i : Nat} {v : Sv} {x x' : List α} (h : Od cs e k w lo hi vs xs) (hv : vs[i]? = some v) (hx : xs[i]? = some x) (c : Ch (bl v.v) w w') (ho : Ol cs e k w' v.v x') : Od cs e k w' lo hi vs (xs.set i x') := by
 have hi' := (List.getElem?_eq_some_iff.1 hx).1
 refine ⟨by simp [h.1], fun j u y a b => ?_, h.2.2⟩
 rw [List.getElem?_set] at b
 by_cases e1 : i = j
 ·subst e1
  rw [if_pos rfl, if_pos hi'] at b
  injection b with b; subst b
  rw [hv] at a; injection a with a; subst a
  exact ⟨ho, (h.2.1 i v x hv hx).2⟩
 rw [if_neg e1] at b
 refine ⟨(h.2.1 j u y a b).1.ch c fun g hg hm => ?_, (h.2.1 j u y a b).2⟩
 rcases Nat.lt_or_gt_of_ne e1 with h1 | h1
 ·exact h.2.2 i j v u hv a h1 g hm hg
 exact h.2.2 j i u v a hv h1 g hg hm
theorem Od.ownget (h : Od cs e k w lo hi vs xs) {i : Nat} {y : Sv} (hy : vs[i]? = some y) : ∃ x, xs[i]? = some x ∧ Ol cs e k w y.v x ∧ (∀ g ∈ bl y.v, lo ≤ g ∧ g < hi) := by
 have hi := (List.getElem?_eq_some_iff.1 hy).1
 have hx : xs[i]? = some (xs[i]'(by have := h.1; omega)) := List.getElem?_eq_getElem _
 exact ⟨_, hx, h.2.1 i y _ hy hx⟩
theorem Xw {β : Type} {l : List β} {i : Nat} {y : β} (h : l[i]? = some y) : y ∈ l := by
 obtain ⟨hi, rfl⟩ := List.getElem?_eq_some_iff.1 h; exact List.getElem_mem hi
end
theorem Ztm {P : Program} {w : World} {l : KL} {dst : Option Tmp} {ty : TypeId} {pos : String} {aft : Array Go.Edge} {gd : Option (Nat × Bool)} {x y : Operand} {xt yt : TypeId} {a b : Int} (hb : ¬ b = 0) (hx : ev l x = some (.int .i64 a)) (hy : ev l y = some (.int .i64 b)) :
   Qd P l ⟨dst, .binOp .rem xt x y yt, ty, pos, aft, gd⟩ w (.int .i64 (a.tmod b)) w := fun ρ hρ => by
 simp [execOp, hρ _ _ hx, hρ _ _ hy, eqGuard, binOp, Op.intDiv, hb]
section
variable {S : Int} {N : List (List Int)} {n j s k : Nat} {l : List Bool} {r : List Int} {y : Int}
def Gone (N : List (List Int)) (o : List Bool) (s : Nat) : Prop := ∀ t, Zom N s t → o[t]? = some true
theorem Gone.set {o : List Bool} {i : Nat} (h : Gone N o s) : Gone N (o.set i true) s := fun t ht => Zrm (h t ht)
end
end Go.KLib

namespace Go.KLib
section
variable {α : Type} {cs : α → List Value} {e k lo hi : Nat} {w w' : World} {vs : List Sv} {xs : List (List α)}
theorem Od.chS {o : Value} (h : Od cs e k w lo hi vs xs) (c : Ch (bl o) w w') (hs : Sep o vs) : Od cs e k w' lo hi vs xs :=
 ⟨h.1, fun i v x a b => ⟨(h.2.1 i v x a b).1.ch c (hs v (Xw a)), (h.2.1 i v x a b).2⟩, h.2.2⟩
end
end Go.KLib

namespace Go.KLib
theorem Zir (n : Nat) : BitVec.ofInt IntKind.i64.bits (n : Int) = BitVec.ofNat 64 n := by
 show BitVec.ofInt 64 (n : Int) = BitVec.ofNat 64 n
 exact BitVec.ofInt_natCast ..
theorem Zkd {m : Int} {i : Nat} (h0 : 0 ≤ m) (hi : i ≤ 64) : ishr m i = ((m.toNat >>> i : Nat) : Int) := by
 obtain ⟨n, rfl⟩ := Int.eq_ofNat_of_zero_le h0
 unfold ishr
 rw [Nat.shiftRight_eq_div_pow]
 have e : min ((i : Int)).toNat IntKind.i64.bits = i := by simp [IntKind.bits]; omega
 rw [e, Int.toNat_natCast, Int.natCast_ediv]
 rw [Int.fdiv_eq_ediv_of_nonneg]
 ·simp
 exact Int.le_of_lt (Int.pow_pos (by decide))
theorem Zrz {n : Nat} (h : n < 9223372036854775808) : iand n 1 = ((n % 2 : Nat) : Int) := by
 have e : (BitVec.ofInt IntKind.i64.bits (n : Int) &&& BitVec.ofInt IntKind.i64.bits 1).toNat = n % 2 := by
  rw [Zir, show (1 : Int) = ((1 : Nat) : Int) from rfl, Zir]
  show (BitVec.ofNat 64 n &&& BitVec.ofNat 64 1).toNat = n % 2
  rw [BitVec.toNat_and, BitVec.toNat_ofNat, BitVec.toNat_ofNat, Nat.mod_eq_of_lt (by omega), Nat.mod_eq_of_lt (by omega), Nat.and_one_is_mod]
 unfold iand; rw [e]; exact IntWalk.i64_in _ (by omega)
theorem Zgw {s : Nat} (h : s < 62) : ishl 1 s = ((2 ^ s : Nat) : Int) := by
 have e : min ((s : Int)).toNat IntKind.i64.bits = s := by simp [IntKind.bits]; omega
 have h2 : (2 : Nat) ^ s ≤ 2 ^ 62 := Nat.pow_le_pow_right (by decide) (by omega)
 unfold ishl; rw [e]
 have e2 : (1 : Int) * 2 ^ s = ((2 ^ s : Nat) : Int) := by simp
 rw [e2]; clear e e2
 generalize (2 : Nat) ^ s = q at h2
 exact IntWalk.i64_in _ (by omega)
theorem Zmn {a b : Nat} (ha : a < 4611686018427387904) (hb : b < 4611686018427387904) : ior a b = ((a ||| b : Nat) : Int) := by
 have h3 : a ||| b < 2 ^ 62 := Nat.or_lt_two_pow ha hb
 have e : (BitVec.ofInt IntKind.i64.bits (a : Int) ||| BitVec.ofInt IntKind.i64.bits (b : Int)).toNat = a ||| b := by
  rw [Zir, Zir]
  show (BitVec.ofNat 64 a ||| BitVec.ofNat 64 b).toNat = _
  rw [BitVec.toNat_or, BitVec.toNat_ofNat, BitVec.toNat_ofNat, Nat.mod_eq_of_lt (by omega), Nat.mod_eq_of_lt (by omega)]
 unfold ior; rw [e]; exact IntWalk.i64_in _ (by omega)
theorem Zss {m : Int} {i : Nat} (h0 : 0 ≤ m) (h1 : m < 4611686018427387904) (hi : i ≤ 64) : iand (ishr m i) 1 = if m.toNat.testBit i then 1 else 0 := by
 rw [Zkd h0 hi, Zrz (by rw [Nat.shiftRight_eq_div_pow]; have := Nat.div_le_self m.toNat (2 ^ i); omega), Nat.testBit_eq_decide_div_mod_eq, Nat.shiftRight_eq_div_pow]
 have h2 : m.toNat / 2 ^ i % 2 < 2 := Nat.mod_lt _ (by decide)
 by_cases h : m.toNat / 2 ^ i % 2 = 1
 ·simp [h]
 have : m.toNat / 2 ^ i % 2 = 0 := by omega
 simp [this]
theorem Zvf {m : Int} {i : Nat} (h : iand (ishr m i) 1 = 1) (h0 : 0 ≤ m) (h1 : m < 4611686018427387904) (hi : i ≤ 64) : m.toNat.testBit i = true := by
 rw [Zss h0 h1 hi] at h; cases hb : m.toNat.testBit i
 ·rw [hb] at h; simp at h
 rfl
theorem Zva {m : Int} {i : Nat} (h : ¬ iand (ishr m i) 1 = 1) (h0 : 0 ≤ m) (h1 : m < 4611686018427387904) (hi : i ≤ 64) : m.toNat.testBit i = false := by
 rw [Zss h0 h1 hi] at h; cases hb : m.toNat.testBit i
 ·rfl
 rw [hb] at h; simp at h
theorem Zuq {m : Int} {s : Nat} (h0 : 0 ≤ m) (h1 : m < 4611686018427387904) (hs : s < 62) : ior m (ishl 1 s) = ((m.toNat ||| 2 ^ s : Nat) : Int) := by
 have h2 : (2 : Nat) ^ s < 2 ^ 62 := Nat.pow_lt_pow_right (by decide) hs
 obtain ⟨n, rfl⟩ := Int.eq_ofNat_of_zero_le h0
 rw [Zgw hs, Zmn (by omega) (by omega), Int.toNat_natCast]
def Zbi (m : Nat) (k : Nat) : List Int := ((List.range k).filter fun i => m.testBit i).map fun (i : Nat) => (i : Int)
theorem Zjc (m k : Nat) : Zbi m (k + 1) = if m.testBit k then Zbi m k ++ [(k : Int)] else Zbi m k := by
 unfold Zbi
 rw [List.range_succ, List.filter_append, List.map_append, List.filter_cons]
 cases m.testBit k <;> simp
theorem Zpp {m : Int} {k : Nat} (h : iand (ishr m k) 1 = 1) (h0 : 0 ≤ m) (h1 : m < 4611686018427387904) (hi : k ≤ 64) : Zbi m.toNat k ++ [(k : Int)] = Zbi m.toNat (k + 1) := by
 rw [Zjc, Zvf h h0 h1 hi]; rfl
theorem Zps {m : Int} {k : Nat} (h : ¬ iand (ishr m k) 1 = 1) (h0 : 0 ≤ m) (h1 : m < 4611686018427387904) (hi : k ≤ 64) : Zbi m.toNat k = Zbi m.toNat (k + 1) := by
 rw [Zjc, Zva h h0 h1 hi]; rfl
theorem Zhy (m k : Nat) : (Zbi m k).length ≤ k := by
 unfold Zbi; rw [List.length_map]; exact Nat.le_trans (List.length_filter_le _ _) (by simp)
end Go.KLib

namespace Go.KLib
def mn (x : Int) : Int := if x < 1000000 then x else 1000000
abbrev Rg9 (l : List Int) : Prop := ∀ x ∈ l, 0 ≤ x ∧ x ≤ 1000000
def crB (T c : Int) (nx : List Int) (k : Nat) : List Int := bif decide (0 < c) && decide (iand (ishr T k) 1 = 1) then nx.set k (mn (nx.getD k 0 + c)) else nx
def cr1 (T c : Int) (nx : List Int) : Nat → List Int
 | 0 => nx
 | k + 1 => crB T c (cr1 T c nx k) k
def cr2 (Tf : Nat → Int) (ns nx : List Int) (m : Nat) : Nat → List Int
 | 0 => nx
 | s + 1 => cr1 (Tf s) (ns.getD s 0) (cr2 Tf ns nx m s) m
section
variable (L : List Int) (f : Int) (F wd : List Int)
def crT (i s : Nat) : Int := Zbx L f F (ishl 1 s) (wd.getD i 0)
def crN : Nat → List Int
 | 0 => (List.replicate (L.length + 1) 0).set 0 1
 | i + 1 => cr2 (crT L f F wd i) (crN i) (List.replicate (L.length + 1) 0) (L.length + 1) (L.length + 1)
def crS (i s : Nat) : List Int := cr2 (crT L f F wd i) (crN L f F wd i) (List.replicate (L.length + 1) 0) (L.length + 1) s
def crK (i s k : Nat) : List Int := cr1 (crT L f F wd i s) ((crN L f F wd i).getD s 0) (crS L f F wd i s) k
end
theorem Zuc (T c : Int) (nx : List Int) (k : Nat) : (crB T c nx k).length = nx.length := by
 unfold crB; cases (decide (0 < c) && decide (iand (ishr T k) 1 = 1)) <;> simp
theorem Zjq (T c : Int) (nx : List Int) : ∀ k, (cr1 T c nx k).length = nx.length
 | 0 => rfl
 | k + 1 => by unfold cr1; rw [Zuc, Zjq T c nx k]
theorem Zjg (Tf : Nat → Int) (ns nx : List Int) (m : Nat) : ∀ s, (cr2 Tf ns nx m s).length = nx.length
 | 0 => rfl
 | s + 1 => by unfold cr2; rw [Zjq, Zjg Tf ns nx m s]
theorem Zht (L : List Int) (f : Int) (F wd : List Int) : ∀ i, (crN L f F wd i).length = L.length + 1
 | 0 => by simp [crN]
 | i + 1 => by unfold crN; rw [Zjg]; simp
theorem Zfm (L : List Int) (f : Int) (F wd : List Int) (i s : Nat) : (crS L f F wd i s).length = L.length + 1 := by unfold crS; rw [Zjg]; simp
theorem Zhm (L : List Int) (f : Int) (F wd : List Int) (i s k : Nat) : (crK L f F wd i s k).length = L.length + 1 := by unfold crK; rw [Zjq, Zfm]
theorem Zuo {l : List Int} (h : Rg9 l) (k : Nat) : 0 ≤ l.getD k 0 ∧ l.getD k 0 ≤ 1000000 := by
 rw [List.getD_eq_getElem?_getD]
 rcases hq : l[k]? with _ | x
 ·simp
 exact h x (Xw hq)
theorem Zqi {l : List Int} (h : Rg9 l) {k : Nat} {x : Int} (hx : 0 ≤ x ∧ x ≤ 1000000) : Rg9 (l.set k x) := fun y hy => by
 rcases List.mem_or_eq_of_mem_set hy with h1 | h1
 ·exact h y h1
 rw [h1]; exact hx
theorem Zwc {T c : Int} {nx : List Int} {k : Nat} (h : Rg9 nx) : Rg9 (crB T c nx k) := by
 unfold crB
 cases hc : (decide (0 < c) && decide (iand (ishr T k) 1 = 1))
 ·exact h
 have h1 := Zuo h k
 rw [Bool.and_eq_true, decide_eq_true_eq] at hc
 exact Zqi h (by have := hc.1; unfold mn; split <;> omega)
theorem Zmy {T c : Int} {nx : List Int} (h : Rg9 nx) : ∀ k, Rg9 (cr1 T c nx k)
 | 0 => h
 | k + 1 => Zwc (Zmy h k)
theorem Zmu {Tf : Nat → Int} {ns nx : List Int} {m : Nat} (h : Rg9 nx) : ∀ s, Rg9 (cr2 Tf ns nx m s)
 | 0 => h
 | s + 1 => Zmy (Zmu h s) m
theorem Zhd (n : Nat) : Rg9 (List.replicate n 0) := fun x hx => by rw [(List.mem_replicate.1 hx).2]; decide
theorem Zor (L : List Int) (f : Int) (F wd : List Int) : ∀ i, Rg9 (crN L f F wd i)
 | 0 => Zqi (Zhd _) (by decide)
 | i + 1 => Zmu (Zhd _) _
theorem Zvu (L : List Int) (f : Int) (F wd : List Int) (i s : Nat) : Rg9 (crS L f F wd i s) := Zmu (Zhd _) _
theorem Zwh (L : List Int) (f : Int) (F wd : List Int) (i s k : Nat) : Rg9 (crK L f F wd i s k) := Zmy (Zvu L f F wd i s) _
section
variable {L : List Int} {f : Int} {F wd : List Int} {i s k : Nat} {y c x : Int}
theorem Zjo (h : (crN L f F wd i)[s]? = some c) : 0 ≤ c ∧ c ≤ 1000000 := Zor L f F wd i c (Xw h)
theorem Zty (h : (crK L f F wd i s k)[k]? = some c) : 0 ≤ c ∧ c ≤ 1000000 := Zwh L f F wd i s k c (Xw h)
theorem Zsk (hy : wd[i]? = some y) (hc : (crN L f F wd i)[s]? = some c) : crK L f F wd i s (k + 1) = crB (Zbx L f F (ishl 1 s) y) c (crK L f F wd i s k) k := by
 have e1 : crT L f F wd i s = Zbx L f F (ishl 1 s) y := by unfold crT; rw [List.getD_eq_getElem?_getD, hy]; rfl
 have e2 : (crN L f F wd i).getD s 0 = c := by rw [List.getD_eq_getElem?_getD, hc]; rfl
 rw [show crK L f F wd i s (k + 1) = crB (crT L f F wd i s) ((crN L f F wd i).getD s 0) (crK L f F wd i s k) k from rfl, e1, e2]
theorem Zvq (hy : wd[i]? = some y) (hc : (crN L f F wd i)[s]? = some c) (hx : (crK L f F wd i s k)[k]? = some x) (h0 : 0 < c) (hb : iand (ishr (Zbx L f F (ishl 1 s) y) k) 1 = 1) : (crK L f F wd i s k).set k (mn (x + c)) = crK L f F wd i s (k + 1) := by
 rw [Zsk hy hc]; unfold crB
 rw [decide_eq_true h0, decide_eq_true hb, List.getD_eq_getElem?_getD, hx]; rfl
theorem Zvk (hy : wd[i]? = some y) (hc : (crN L f F wd i)[s]? = some c) (hb : ¬ iand (ishr (Zbx L f F (ishl 1 s) y) k) 1 = 1) : crK L f F wd i s k = crK L f F wd i s (k + 1) := by
 rw [Zsk hy hc]; unfold crB
 rw [decide_eq_false hb, Bool.and_false]; rfl
theorem Zjx (hc : (crN L f F wd i)[s]? = some c) (h0 : ¬ 0 < c) : ∀ k, crK L f F wd i s k = crS L f F wd i s
 | 0 => rfl
 | k + 1 => by
  have e2 : (crN L f F wd i).getD s 0 = c := by rw [List.getD_eq_getElem?_getD, hc]; rfl
  rw [show crK L f F wd i s (k + 1) = crB (crT L f F wd i s) ((crN L f F wd i).getD s 0) (crK L f F wd i s k) k from rfl, e2]
  unfold crB; rw [decide_eq_false h0]; exact Zjx hc h0 k
theorem Znr (h : k = L.length + 1) : crK L f F wd i s k = crS L f F wd i (s + 1) := by subst h; rfl
theorem Znj (hc : (crN L f F wd i)[s]? = some c) (h0 : ¬ 0 < c) : crK L f F wd i s k = crS L f F wd i (s + 1) := by
 rw [Zjx hc h0 k, ← Zjx hc h0 (L.length + 1)]; rfl
theorem Zuv (h : s = L.length + 1) : crS L f F wd i s = crN L f F wd (i + 1) := by subst h; rfl
end
def Zdl (last : Int) (nl : Bool) (n : List Int) : Nat → Int
 | 0 => 0
 | s + 1 => bif accB last nl (ishl 1 s) then mn (Zdl last nl n s + n.getD s 0) else Zdl last nl n s
theorem Zpj {last : Int} {nl : Bool} {n : List Int} {s : Nat} {t c : Int} (ht : t = Zdl last nl n s) (hc : n[s]? = some c) (hb : accB last nl (ishl 1 s) = true) : mn (t + c) = Zdl last nl n (s + 1) := by
 unfold Zdl; rw [hb, cond_true, List.getD_eq_getElem?_getD, hc, ht]; rfl
theorem Zpf {last : Int} {nl : Bool} {n : List Int} {s : Nat} {t : Int} (ht : t = Zdl last nl n s) (hb : accB last nl (ishl 1 s) = false) : t = Zdl last nl n (s + 1) := by
 unfold Zdl; rw [hb, cond_false, ht]
noncomputable def crR (L : List Int) (f last : Int) (F : List Int) (nl : Bool) (wd : List Int) : Int := bif tt (Zcf L f last F ∧ IsWd wd) then Zdl last nl (crN L f F wd wd.length) (L.length + 1) else 0
theorem Zto {L : List Int} {f last : Int} {F : List Int} {nl : Bool} {wd : List Int} {i s : Nat} {t : Int} (h1 : Zcf L f last F) (h2 : IsWd wd) (ht : t = Zdl last nl (crN L f F wd i) s) (hi : i = wd.length) (hs : s = L.length + 1) : t = crR L f last F nl wd := by
 subst hi hs; unfold crR; rw [← Zbl ⟨h1, h2⟩]; exact ht
theorem Znz {L : List Int} {f last : Int} {F : List Int} {nl : Bool} {wd : List Int} (h : ¬ (Zcf L f last F ∧ IsWd wd)) : 0 = crR L f last F nl wd := by unfold crR; rw [← Xp h]; rfl
end Go.KLib

namespace Go.KLib
end Go.KLib

namespace Go.KLib
theorem Od.rng {α : Type} {cs : α → List Value} {e k : Nat} {w : World} {lo hi : Nat} {vs : List Sv} {xs : List (List α)} (h : Od cs e k w lo hi vs xs) {u : Sv} (hu : u ∈ vs) {g : Nat} (hg : g ∈ bl u.v) : lo ≤ g ∧ g < hi := by
 obtain ⟨i, hi, rfl⟩ := List.getElem_of_mem hu
 obtain ⟨x, _, _, h3⟩ := h.ownget (List.getElem?_eq_getElem hi)
 exact h3 g hg
def keyE (C : List Int) (t : Int) : Int := if t < 0 then -1 else C.getD t.toNat 0
def keyC (C : List Int) (r : List Int) (c : Int) : List Int := c :: r.map (keyE C)
def rfn (C : List Int) (N : List (List Int)) : Nat → List (List Int) × List Int
 | 0 => ([], [])
 | s + 1 =>
  let p := rfn C N s
  let c := C.getD s 0
  if c < 0 then (p.1, p.2 ++ [-1])
  else if keyC C (N.getD s []) c ∈ p.1 then (p.1, p.2 ++ [(p.1.idxOf (keyC C (N.getD s []) c) : Int)])
  else (p.1 ++ [keyC C (N.getD s []) c], p.2 ++ [(p.1.length : Int)])
section
variable {C : List Int} {N : List (List Int)}
theorem Zwm {s : Nat} (h : C.getD s 0 < 0) : rfn C N (s + 1) = ((rfn C N s).1, (rfn C N s).2 ++ [-1]) := by
 show (if _ then _ else _) = _
 rw [if_pos h]
theorem Zwp {s : Nat} (h : ¬ C.getD s 0 < 0) (hk : keyC C (N.getD s []) (C.getD s 0) ∈ (rfn C N s).1) : rfn C N (s + 1) = ((rfn C N s).1, (rfn C N s).2 ++ [((rfn C N s).1.idxOf (keyC C (N.getD s []) (C.getD s 0)) : Int)]) := by
 show (if _ then _ else _) = _
 rw [if_neg h, if_pos hk]
theorem Zue {s : Nat} (h : ¬ C.getD s 0 < 0) (hk : ¬ keyC C (N.getD s []) (C.getD s 0) ∈ (rfn C N s).1) : rfn C N (s + 1) = ((rfn C N s).1 ++ [keyC C (N.getD s []) (C.getD s 0)], (rfn C N s).2 ++ [((rfn C N s).1.length : Int)]) := by
 show (if _ then _ else _) = _
 rw [if_neg h, if_neg hk]
theorem Zhz (C : List Int) (N : List (List Int)) (s : Nat) :
   (C.getD s 0 < 0 ∧ rfn C N (s + 1) = ((rfn C N s).1, (rfn C N s).2 ++ [-1])) ∨
   (¬ C.getD s 0 < 0 ∧ keyC C (N.getD s []) (C.getD s 0) ∈ (rfn C N s).1 ∧ rfn C N (s + 1) = ((rfn C N s).1, (rfn C N s).2 ++ [((rfn C N s).1.idxOf (keyC C (N.getD s []) (C.getD s 0)) : Int)])) ∨
   (¬ C.getD s 0 < 0 ∧ ¬ keyC C (N.getD s []) (C.getD s 0) ∈ (rfn C N s).1 ∧ rfn C N (s + 1) = ((rfn C N s).1 ++ [keyC C (N.getD s []) (C.getD s 0)], (rfn C N s).2 ++ [((rfn C N s).1.length : Int)])) := by
 by_cases h : C.getD s 0 < 0
 ·exact .inl ⟨h, Zwm h⟩
 by_cases hk : keyC C (N.getD s []) (C.getD s 0) ∈ (rfn C N s).1
 ·exact .inr (.inl ⟨h, hk, Zwp h hk⟩)
 exact .inr (.inr ⟨h, hk, Zue h hk⟩)
theorem Zpx (C : List Int) (N : List (List Int)) : ∀ s, (rfn C N s).2.length = s ∧ (rfn C N s).1.length ≤ s
 | 0 => ⟨rfl, Nat.le_refl _⟩
 | s + 1 => by
  obtain ⟨h1, h2⟩ := Zpx C N s
  rcases Zhz C N s with ⟨_, e⟩ | ⟨_, _, e⟩ | ⟨_, _, e⟩ <;> rw [e] <;> simp <;> omega
end
def clsD (N : List (List Int)) (D0 : List Int) (n : Nat) : Nat → List Int
 | 0 => D0
 | i + 1 => (rfn (clsD N D0 n i) N n).2
section
variable {N : List (List Int)} {D0 : List Int} {n : Nat}
end
section
variable {C : List Int} {N : List (List Int)} {s k : Nat} {r : List Int} {c t y : Int}
theorem Zak {β : Type} {l : List β} {i : Nat} {x d : β} (h : l[i]? = some x) : l.getD i d = x := by rw [List.getD_eq_getElem?_getD, h]; rfl
end
section
variable {C : List Int} {N : List (List Int)} {s : Nat} {c : Int}
end
section
variable {C : List Int} {N : List (List Int)} {s m : Nat} {c a : Int} {x : List Int}
end
def clsI (A L : List Bool) (k : Nat) : List Int := (List.range k).map fun s => if L.getD s false = false then -1 else if A.getD s false then 1 else 0
theorem Zry (A L : List Bool) (k : Nat) : (clsI A L k).length = k := by simp [clsI]
end Go.KLib

namespace Go.KLib
open Go.ChangeShapes Go.WideShapes Go.ChangeAt Go.RowKit Go.Deep Go.Joins
structure Gv where
 v : Sv
 e : Sv
def Gv.cs (p : Gv) : List Value := [.slice p.v.A p.v.n p.v.c, .slice p.e.A p.e.n p.e.c]
theorem Gv.len (p : Gv) : p.cs.length = 2 := rfl
theorem Gv.one (x : Gv) : ∀ y ∈ x.cs, y.oneCell' = true := by intro y hy; simp [Gv.cs] at hy; rcases hy with rfl | rfl <;> rfl
structure GD where
 V : List Int
 E : List GEdge
def RdG (w : World) (L B : Nat) (vs : List Gv) (xs : List GD) : Prop :=
 vs.length = xs.length ∧ ∀ (i : Nat) (p : Gv) (x : GD), vs[i]? = some p → xs[i]? = some x → Ls ics 1 w L B p.v.v x.V ∧ Ls GEdge.cs 4 w L B p.e.v x.E
section
variable {L L' B B' : Nat} {w w' : World} {vs : List Gv} {xs : List GD} {ws : List Nat}
theorem RdG.ch (h : RdG w L B vs xs) (c : Ch ws w w') (hw : ∀ i ∈ ws, i < L ∨ B ≤ i) : RdG w' L B vs xs := ⟨h.1, fun i v x a b => ⟨(h.2 i v x a b).1.ch c hw, (h.2 i v x a b).2.ch c hw⟩⟩
theorem RdG.ch0 (h : RdG w L B vs xs) (c : Ch [] w w') : RdG w' L B vs xs := h.ch c (by simp)
theorem RdG.up (h : RdG w L B vs xs) (hL : L' ≤ L) (hB : B ≤ B') : RdG w L' B' vs xs := ⟨h.1, fun i v x a b => ⟨(h.2 i v x a b).1.up hL hB, (h.2 i v x a b).2.up hL hB⟩⟩
theorem RdG.here (h : RdG w L B vs xs) : RdG w L w.heap.size vs xs := ⟨h.1, fun i v x a b => ⟨(h.2 i v x a b).1.here (by decide), (h.2 i v x a b).2.here (by decide)⟩⟩
theorem RdG.nil : RdG w L B [] [] := ⟨rfl, fun _ _ _ h => by simp at h⟩
theorem Ol.within {α : Type} {cs : α → List Value} {e k : Nat} {w : World} {v : Value} {xs : List α} {L B L0 B0 : Nat} (h : Ol cs e k w v xs) (hl : Lo L0 v) (hh : ∀ g ∈ bl v, g < B0) (h1 : L ≤ L0) (h2 : B0 ≤ B) : Ls cs k w L B v xs := by
 have hs := h.ls
 refine ⟨hs.1, ?_⟩
 obtain ⟨A, c, hv, h3, h4, h5⟩ := hs.2
 refine ⟨A, c, hv, h3, h4, fun hp => ?_⟩
 obtain ⟨ad, ha, hat⟩ := h5 hp
 have hm : ad.block ∈ bl v := by rw [hv, ha]; simp [bl, Value.ownBlock]
 exact ⟨ad, ha, ⟨Nat.le_trans h1 (hl _ hm), Nat.lt_of_lt_of_le (hh _ hm) h2⟩, hat.2⟩
theorem RdG.snoc {p : Gv} {x : GD} (r : RdG w L B vs xs) (h1 : Ls ics 1 w L B p.v.v x.V) (h2 : Ls GEdge.cs 4 w L B p.e.v x.E) : RdG w L B (vs ++ [p]) (xs ++ [x]) := by
 refine ⟨by simp [r.1], fun i u y a b => ?_⟩
 rcases Zbb a with ⟨a1, a2⟩ | ⟨a1, a2⟩
 ·rcases Zbb b with ⟨b1, b2⟩ | ⟨b1, b2⟩
  ·exact r.2 i u y a2 b2
  have := r.1; omega
 rcases Zbb b with ⟨b1, b2⟩ | ⟨b1, b2⟩
 ·have := r.1; omega
 subst a2 b2; exact ⟨h1, h2⟩
theorem RdG.get (h : RdG w L B vs xs) {i : Nat} {y : Gv} (hy : vs[i]? = some y) : ∃ x, xs[i]? = some x ∧ Ls ics 1 w L B y.v.v x.V ∧ Ls GEdge.cs 4 w L B y.e.v x.E := by
 have hi := (List.getElem?_eq_some_iff.1 hy).1
 have hx : xs[i]? = some (xs[i]'(by have := h.1; omega)) := List.getElem?_eq_getElem _
 exact ⟨_, hx, h.2 i y _ hy hx⟩
end
theorem RdG.at_ {w : World} {L B : Nat} {vs : List Gv} {xs : List GD} (h : RdG w L B vs xs) : vs.length = xs.length := h.1
section
variable {H : Type} {enc : TypeId × Value → H} {P : Program} {w : World} {base : Nat} {spare : Nat → Bool} {held : Bool}
end
end Go.KLib

namespace Go.KLib
section
variable {T : Type} [DecidableEq T]
variable {nx : T → Nat → T} {t0 : T} {ts : T → Bool}
end
end Go.KLib

namespace Go.KLib
open Go.Sort Go.RowKit
end Go.KLib

namespace Go.KLib
theorem Zli : ∀ (l : List Token) (st st' : List Tr), prs st l = some st' → ∀ t ∈ l, 0 ≤ arT t
 | [], _, _, _, _, h => by cases h
 | t :: l, st, st', h, u, hu => by
  unfold prs at h
  rcases hq : push st t with _ | s2
  ·rw [hq] at h; cases h
  rw [hq] at h
  rcases List.mem_cons.1 hu with rfl | hu
  ·rcases Zba u with e | e | e | e
   ·unfold push at hq; rw [e] at hq; simp at hq
   ·omega
   ·omega
   omega
  exact Zli l s2 st' h u hu
def letM (l : List Token) : Nat → Nat
 | 0 => 0
 | k + 1 => match l[k]? with
  | none => letM l k
  | some t => if t.kind = 3 then letM l k ||| 2 ^ t.letter.toNat else letM l k
theorem Zsx {l : List Token} {k : Nat} {t : Token} (h : l[k]? = some t) (hk : t.kind = 3) : letM l (k + 1) = letM l k ||| 2 ^ t.letter.toNat := by
 show (match l[k]? with | none => _ | some t => _) = _
 rw [h]; simp [hk]
theorem Zos {l : List Token} {k : Nat} {t : Token} (h : l[k]? = some t) (hk : ¬ t.kind = 3) : letM l (k + 1) = letM l k := by
 show (match l[k]? with | none => _ | some t => _) = _
 rw [h]; simp [hk]
def Zvg (l : List Token) : Prop := ∀ t ∈ l, t.kind = 3 → 0 ≤ t.letter ∧ t.letter ≤ 8
theorem Zhp {l : List Token} (h : Zvg l) : ∀ k, letM l k < 512
 | 0 => show 0 < 512 by decide
 | k + 1 => by
  rcases hq : l[k]? with _ | t
  ·show (match l[k]? with | none => _ | some t => _) < 512
   rw [hq]; exact Zhp h k
  by_cases hk : t.kind = 3
  ·rw [Zsx hq hk]
   have := h t (Xw hq) hk
   exact Nat.or_lt_two_pow (n := 9) (Zhp h k) (Nat.pow_lt_pow_right (by decide) (by omega))
  rw [Zos hq hk]; exact Zhp h k
theorem Zdn {l : List Token} (h : isE l = true) : Zvg l := fun t ht hk => by
 unfold isE Qx at h
 rcases hq : prs [] l with _ | st
 ·rw [hq] at h; cases h
 have h1 := Zli l [] st hq t ht
 unfold arT at h1; rw [hk] at h1; simp at h1
 by_cases h2 : (0 ≤ t.letter ∧ t.letter ≤ 8) ∧ t.low = 0 ∧ t.high = 0
 ·exact h2.1
 exfalso; simp only [h2, if_false] at h1
 omega
theorem Zsp {l : List Token} {k : Nat} {t u : Token} {m : Int} (h : l[k]? = some t) (h2 : l[k]? = some u) (hm : m = ((letM l k : Nat) : Int)) (hk : t.kind = 3) (he : isE l = true) : ior m (ishl 1 u.letter) = ((letM l (k + 1) : Nat) : Int) := by
 rw [h] at h2; injection h2 with h2; subst h2
 have hl := Zdn he t (Xw h) hk
 have hb := Zhp (Zdn he) k
 subst hm
 rw [Zsx h hk, show t.letter = ((t.letter.toNat : Nat) : Int) by omega, Zuq (by omega) (by omega) (by omega), Int.toNat_natCast, Int.toNat_natCast]
def Zfk (l : List Token) : List Int := bif isE l then Zbi (letM l l.length) 30 else []
theorem Ztx {l : List Token} (h : isE l = false) : Zbi (letM l 0) 30 = Zfk l := by
 unfold Zfk; rw [h]; show Zbi 0 30 = []; decide
theorem Ztu {l : List Token} {k : Nat} (h : isE l = true) (hk : k = l.length) : Zbi (letM l k) 30 = Zfk l := by subst hk; unfold Zfk; rw [h]; rfl
theorem Zse {l : List Token} {i : Nat} (ho : 0 < i → isE l = true) : letM l i < 512 := by
 cases i with
 | zero => show 0 < 512; decide
 | succ i => exact Zhp (Zdn (ho (by omega))) _
theorem Zfa {l : List Token} {i : Nat} (ho : 0 < i → isE l = true) (h : l.length ≤ i ∨ isE l = false) (hi : i ≤ l.length) : Zbi (letM l i) 30 = Zfk l := by
 cases hb : isE l
 ·have : i = 0 := by
   rcases Nat.eq_zero_or_pos i with h0 | h0
   ·exact h0
   rw [ho h0] at hb; cases hb
  subst this; exact Ztx hb
 rcases h with h | h
 ·exact Ztu hb (by omega)
 rw [hb] at h; cases h
theorem Zql (l : List Token) : (Zfk l).length ≤ 30 := by
 unfold Zfk; cases isE l
 ·simp
 exact Zhy _ _
end Go.KLib

namespace Go.KLib
open Go.Sort Go.RowKit Go.Shelf Go.Proofs
section
variable {P : Program} {ρ : Ren} {w : World} {e : TypeId} {v : Value} {a : List Int}
end
end Go.KLib

namespace Go.KLib
def SepG (vs : List Gv) : Prop := ∀ u ∈ vs, ∀ t ∈ vs, ∀ g ∈ bl u.v.v, g ∉ bl t.e.v
def OdG (e1 e2 : Nat) (w : World) (lo hi : Nat) (vs : List Gv) (xs : List GD) : Prop :=
 vs.length = xs.length ∧ Od ics e1 1 w lo hi (vs.map (·.v)) (xs.map (·.V)) ∧ Od GEdge.cs e2 4 w lo hi (vs.map (·.e)) (xs.map (·.E)) ∧ SepG vs
section
variable {e1 e2 lo hi hi' : Nat} {w w' : World} {vs : List Gv} {xs : List GD} {ws : List Nat}
theorem OdG.ch (h : OdG e1 e2 w lo hi vs xs) (c : Ch ws w w') (hw : ∀ i ∈ ws, i < lo ∨ hi ≤ i) : OdG e1 e2 w' lo hi vs xs := ⟨h.1, h.2.1.ch c hw, h.2.2.1.ch c hw, h.2.2.2⟩
theorem OdG.ch0 (h : OdG e1 e2 w lo hi vs xs) (c : Ch [] w w') : OdG e1 e2 w' lo hi vs xs := h.ch c (by simp)
theorem OdG.up {lo' : Nat} (h : OdG e1 e2 w lo hi vs xs) (hl : lo' ≤ lo) (hh : hi ≤ hi') : OdG e1 e2 w lo' hi' vs xs := ⟨h.1, h.2.1.up hl hh, h.2.2.1.up hl hh, h.2.2.2⟩
theorem OdG.nil : OdG e1 e2 w lo hi [] [] := ⟨rfl, Od.nil, Od.nil, fun _ h => by cases h⟩
theorem Zjr {α β : Type} {l : List α} {f : α → β} {i : Nat} {y : α} (h : l[i]? = some y) : (l.map f)[i]? = some (f y) := by rw [List.getElem?_map, h]; rfl
theorem OdG.get (h : OdG e1 e2 w lo hi vs xs) {i : Nat} {y : Gv} (hy : vs[i]? = some y) : ∃ x, xs[i]? = some x ∧ Ol ics e1 1 w y.v.v x.V ∧ Ol GEdge.cs e2 4 w y.e.v x.E ∧ (∀ g ∈ bl y.v.v, lo ≤ g ∧ g < hi) ∧ (∀ g ∈ bl y.e.v, lo ≤ g ∧ g < hi) ∧ (∀ g ∈ bl y.v.v, g ∉ bl y.e.v) := by
 have hi := (List.getElem?_eq_some_iff.1 hy).1
 have hx : xs[i]? = some (xs[i]'(by have := h.1; omega)) := List.getElem?_eq_getElem _
 have h1 := h.2.1.2.1 i _ _ (Zjr (f := (·.v)) hy) (Zjr (f := (·.V)) hx)
 have h2 := h.2.2.1.2.1 i _ _ (Zjr (f := (·.e)) hy) (Zjr (f := (·.E)) hx)
 exact ⟨_, hx, h1.1, h2.1, h1.2, h2.2, h.2.2.2 y (Xw hy) y (Xw hy)⟩
theorem OdG.rng (h : OdG e1 e2 w lo hi vs xs) {u : Gv} (hu : u ∈ vs) : (∀ g ∈ bl u.v.v, lo ≤ g ∧ g < hi) ∧ (∀ g ∈ bl u.e.v, lo ≤ g ∧ g < hi) := by
 obtain ⟨i, hi, rfl⟩ := List.getElem_of_mem hu
 obtain ⟨x, _, _, _, r1, r2, _⟩ := h.get (List.getElem?_eq_getElem hi)
 exact ⟨r1, r2⟩
theorem OdG.snoc (h : OdG e1 e2 w lo hi vs xs) {p : Gv} {x : GD} (o1 : Ol ics e1 1 w p.v.v x.V) (o2 : Ol GEdge.cs e2 4 w p.e.v x.E) (l1 : Lo hi p.v.v) (l2 : Lo hi p.e.v) (u1 : ∀ g ∈ bl p.v.v, g < hi') (u2 : ∀ g ∈ bl p.e.v, g < hi') (hd : ∀ g ∈ bl p.v.v, g ∉ bl p.e.v) (hh : hi ≤ hi') (hlo : lo ≤ hi) : OdG e1 e2 w lo hi' (vs ++ [p]) (xs ++ [x]) := by
 refine ⟨by simp [h.1], ?_, ?_, fun u hu t ht g hg hm => ?_⟩
 ·rw [List.map_append, List.map_append]; exact h.2.1.snoc o1 l1 u1 hh hlo
 ·rw [List.map_append, List.map_append]; exact h.2.2.1.snoc o2 l2 u2 hh hlo
 rcases List.mem_append.1 hu with hu | hu <;> rcases List.mem_append.1 ht with ht | ht
 ·exact h.2.2.2 u hu t ht g hg hm
 ·rw [List.mem_singleton.1 ht] at hm
  have a := ((h.rng hu).1 g hg).2; have b := l2 g hm; omega
 ·rw [List.mem_singleton.1 hu] at hg
  have a := ((h.rng ht).2 g hm).2; have b := l1 g hg; omega
 rw [List.mem_singleton.1 hu] at hg; rw [List.mem_singleton.1 ht] at hm; exact hd g hg hm
def SepH (o : Value) (vs : List Gv) : Prop := ∀ u ∈ vs, (∀ g ∈ bl u.v.v, g ∉ bl o) ∧ ∀ g ∈ bl u.e.v, g ∉ bl o
end
end Go.KLib

namespace Go.KLib
end Go.KLib

namespace Go.KLib
theorem SepH.of {o o' : Value} {vs : List Gv} (h : SepH o vs) (e : bl o' = bl o) : SepH o' vs := fun u hu => ⟨fun g hg hm => (h u hu).1 g hg (e ▸ hm), fun g hg hm => (h u hu).2 g hg (e ▸ hm)⟩
end Go.KLib

namespace Go.KLib
open Go.MapKept
def Mp {T : Type} (kv : T → Value) (w : World) (b : Nat) (ks : List T) : Prop :=
 ∃ es clock, w.heap[b]? = some (.map es clock) ∧ es.toList.map (fun e => (e.key, e.val)) = ks.map (fun t => (kv t, Value.bool true))
section
variable {P : Program} {t : TypeId} {T : Type} [DecidableEq T] {kv : T → Value} {w w' : World} {b : Nat} {ks : List T} {ws : List Nat}
omit [DecidableEq T] in
theorem Mp.lt (h : Mp kv w b ks) : b < w.heap.size := by
 obtain ⟨es, c, hb, _⟩ := h
 rcases Nat.lt_or_ge b w.heap.size with hlt | hge
 ·exact hlt
 rw [Array.getElem?_eq_none hge] at hb; cases hb
omit [DecidableEq T] in
theorem Mp.ch (h : Mp kv w b ks) (c : Ch ws w w') (hn : b ∉ ws) : Mp kv w' b ks := by
 have hl := h.lt
 obtain ⟨es, k, hb, he⟩ := h
 exact ⟨es, k, (c.block b hl hn).trans hb, he⟩
omit [DecidableEq T] in
theorem Mp.ch0 (h : Mp kv w b ks) (c : Ch [] w w') : Mp kv w' b ks := h.ch c (by simp)
end
section
variable {P : Program} {N : Nat} {w : World} {l : KL} {dst : Option Tmp} {ty : TypeId} {pos : String} {aft : Array Edge} {gd : Option (Nat × Bool)} {K' : Value → World → Prop} {t kt et : TypeId} {T : Type} [DecidableEq T] {kv : T → Value} {b : Nat} {ks : List T}
end
structure St2 where
 a : Int
 b : Int
 deriving DecidableEq
def St2.cs (s : St2) : List Value := [.int .i64 s.a, .int .i64 s.b]
theorem St2.len (s : St2) : s.cs.length = 2 := rfl
theorem St2.one (x : St2) : ∀ y ∈ x.cs, y.oneCell' = true := by intro y hy; simp [St2.cs] at hy; rcases hy with rfl | rfl <;> rfl
section
variable {P : Program} {t : TypeId}
end
end Go.KLib

namespace Go.KLib
def val (w : List Int) : Nat := w.foldl (fun a c => 9 * a + c.toNat + 1) 0
def okW (w : List Int) : Prop := ∀ c ∈ w, 0 ≤ c ∧ c ≤ 8
theorem Zpq : okW [] := fun _ h => by cases h
section
variable {T : Type} [DecidableEq T] {nx : T → Nat → T} {t0 : T} {ts : T → Bool}
def runT (nx : T → Nat → T) (t0 : T) (w : List Int) : T := w.foldl (fun t c => nx t c.toNat) t0
def Srt (E : List (T × List Int)) : Prop := E.Pairwise fun x y => val x.2 < val y.2
omit [DecidableEq T] in
theorem Srt.lt {E : List (T × List Int)} (h : Srt E) {i j : Nat} {x y : T × List Int} (hi : E[i]? = some x) (hj : E[j]? = some y) (hv : val x.2 < val y.2) : i < j := by
 obtain ⟨hi1, hi2⟩ := List.getElem?_eq_some_iff.1 hi
 obtain ⟨hj1, hj2⟩ := List.getElem?_eq_some_iff.1 hj
 rcases Nat.lt_trichotomy i j with q | q | q
 ·exact q
 ·subst q; rw [hi2] at hj2; rw [hj2] at hv; omega
 have := List.pairwise_iff_getElem.1 h j i hj1 hi1 q
 rw [hi2, hj2] at this; omega
end
end Go.KLib

namespace Go.KLib
section
variable {α : Type} [DecidableEq α]
end
end Go.KLib

namespace Go.KLib
open Go.Sort Go.RowKit Go.Shelf Go.Proofs
instance : Inhabited Pair := ⟨⟨0, 0⟩⟩
section
variable {α : Type} [Inhabited α] {cs : α → List Value} {k : Nat} {w : World} {e : TypeId} {g off cap n : Nat} {xs ys : List α}
end
instance (x y : Pair) : Decidable (Zvi x y) := by unfold Zvi; exact inferInstance
section
variable {P : Program} {ρ : Ren} {w : World} {e : TypeId} {v : Value} {a : List Pair}
end
end Go.KLib

namespace Go.KLib
open Go.Sort
section
variable {P : Program} {w : World} {l : KL} {dst : Option Tmp} {ty : TypeId} {pos : String} {aft : Array Go.Edge} {gd : Option (Nat × Bool)} {K : Value → World → Prop}
variable {α : Type} {cs : α → List Value} {e k : Nat} {v : Value} {xs : List α}
end
section
variable {α : Type} [DecidableEq α]
end
end Go.KLib

namespace Go.KLib
structure Qt (T : Type) where
 x : T
 s : Sv
abbrev Qs := Qt St2
abbrev Qi := Qt Int
def Qs.cs (q : Qs) : List Value := [.int .i64 q.x.a, .int .i64 q.x.b, .slice q.s.A q.s.n q.s.c]
def Qi.cs (q : Qi) : List Value := [.int .i64 q.x, .slice q.s.A q.s.n q.s.c]
theorem Qs.len (s : Qs) : (Qs.cs s).length = 3 := rfl
theorem Qi.len (s : Qi) : (Qi.cs s).length = 2 := rfl
theorem Qs.one (x : Qs) : ∀ y ∈ Qs.cs x, y.oneCell' = true := by intro y hy; simp [Qs.cs] at hy; rcases hy with rfl | rfl | rfl <;> rfl
theorem Qi.one (x : Qi) : ∀ y ∈ Qi.cs x, y.oneCell' = true := by intro y hy; simp [Qi.cs] at hy; rcases hy with rfl | rfl <;> rfl
section
variable {T : Type}
def zq (E : List (T × List Int)) (V : List Sv) : List (Qt T) := List.zipWith (fun e s => ⟨e.1, s⟩) E V
end
section
variable {T : Type} [DecidableEq T] {nx : T → Nat → T} {t0 : T} {ts : T → Bool}
end
def nxI (N : List (List Int)) (s : Int) (k : Nat) : Int := Ztk N s k
section
variable {SA SB : Int} {A B : List Bool} {N M : List (List Int)}
end
section
variable {SA SB s t : Int} {A B : List Bool} {N M : List (List Int)}
end
structure GNode where
 a : Int
 b : Int
 apart : Bool
 frm : Int
 by_ : Int
def GNode.cs (p : GNode) : List Value := [.int .i64 p.a, .int .i64 p.b, .bool p.apart, .int .i64 p.frm, .int .i64 p.by_]
theorem GNode.len (p : GNode) : p.cs.length = 5 := rfl
theorem GNode.one (x : GNode) : ∀ y ∈ x.cs, y.oneCell' = true := by intro y hy; simp [GNode.cs] at hy; rcases hy with rfl | rfl | rfl | rfl | rfl <;> rfl
section
variable {T : Type} [DecidableEq T] {nx : T → Nat → T} {t0 : T}
end
section
variable {N M : List (List Int)} {L : List GNode} {E : List (St2 × List Int)} {e : St2 × List Int} {m k : Nat} {a b fr by_ : Int}
end
section
variable {T : Type} [DecidableEq T] {nx : T → Nat → T} {t0 : T} {ts : T → Bool}
end
section
variable {SA SB s t : Int} {A B : List Bool} {N M : List (List Int)}
end
end Go.KLib

namespace Go.KLib
theorem Zhe {P : Program} {N : Nat} {ops : Array Oper} {Q : Po} {l : KL} {w : World} {S : World → Prop} {fuel : Nat} {listed : Array Bool} (i j m : Nat) (hr : Region.ready .any ops listed = [i, j, m])
   (h1 : DO P N ops Q S fuel listed i l w) (h2 : DO P N ops Q S fuel listed j l w) (h3 : DO P N ops Q S fuel listed m l w) : DR P N ops Q S (fuel + 1) listed l w :=
 Zoq hr (by simp) (by
  intro k hk
  rcases List.mem_cons.1 hk with rfl | hk
  ·exact h1
  rcases List.mem_cons.1 hk with rfl | hk
  ·exact h2
  rw [List.mem_singleton.1 hk]; exact h3)
theorem Zv {z : Value} {n b c : Nat} {R : List Nat} (h : ∀ g ∈ bl z, n ≤ g ∨ g ∈ b :: R) (hb : b ∉ bl z) (hn : c < n) (hr : c ∉ R) : c ∉ bl z := fun hm => by
 rcases h _ hm with q | q
 ·omega
 rcases List.mem_cons.1 q with q | q
 ·exact hb (q ▸ hm)
 exact hr q
theorem Yk {c : Nat} {A B : List Nat} (h : c ∉ A) (k : c ∉ B) : c ∉ A ++ B := fun q => by
 rcases List.mem_append.1 q with q | q
 ·exact h q
 exact k q
theorem Zvo {z : Value} {n b m : Nat} {R W : List Nat} (h : ∀ g ∈ bl z, n ≤ g ∨ g ∈ b :: R) (hb : b ∉ bl z) (hn : m ≤ n) (hr : ∀ g ∈ R, m ≤ g ∨ g ∈ W) : ∀ g ∈ bl z, m ≤ g ∨ g ∈ W := fun g hm => by
 rcases h _ hm with q | q
 ·left; omega
 rcases List.mem_cons.1 q with q | q
 ·exact absurd (q ▸ hm) hb
 exact hr _ q
theorem Ys {A B : List Nat} {p : Nat → Prop} (h : ∀ g ∈ A, p g) (k : ∀ g ∈ B, p g) : ∀ g ∈ A ++ B, p g := fun g q => by
 rcases List.mem_append.1 q with q | q
 ·exact h g q
 exact k g q
theorem Yz {z : Value} {n b L : Nat} {R : List Nat} (h : ∀ g ∈ bl z, n ≤ g ∨ g ∈ b :: R) (hb : b ∉ bl z) (hn : L ≤ n) (hr : ∀ g ∈ R, L ≤ g) : Lo L z := fun g hm => by
 rcases h _ hm with q | q
 ·omega
 rcases List.mem_cons.1 q with q | q
 ·exact absurd (q ▸ hm) hb
 exact hr _ q
theorem Zsc (a b : Int) : ior a b = ior b a := by unfold ior; rw [BitVec.or_comm]
theorem Yt {z : Value} {n b : Nat} {R W : List Nat} {w0 w1 : World} (E : Ch W w0 w1) (h : ∀ g ∈ bl z, n ≤ g ∨ g ∈ b :: R) (hb : b ∉ bl z) (hn : w0.heap.size ≤ n) (hr : ∀ g ∈ R, w0.heap.size ≤ g ∨ g ∈ W) : ∀ g ∈ bl z, w0.heap.size ≤ g ∨ g ∈ W := Zvo h hb hn hr
theorem Zs {v : Value} {L W b : Nat} (lo : Lo L v) (hi : ∀ g ∈ bl v, g < W) (h : b < L ∨ W ≤ b) : b ∉ bl v := fun hm => by
 have h1 := lo _ hm
 have h2 := hi _ hm
 omega
theorem Xd {a b : Nat} {A B : List Nat} (h : b ≠ a) (hA : b ∉ A) (hB : b ∉ B) : b ∉ a :: (A ++ B) := fun hm => by
 rcases List.mem_cons.1 hm with q | q
 ·exact h q
 exact Yk hA hB q
theorem Qb {v v' : Value} {L B La Lb a : Nat} (h : a < L ∨ B ≤ a) (lo : Lo La v) (hA : B ≤ La) (lo' : Lo Lb v') (hB : B ≤ Lb) : ∀ i ∈ a :: (bl v ++ bl v'), i < L ∨ B ≤ i := fun i hm => by
 rcases List.mem_cons.1 hm with q | q
 ·omega
 rcases List.mem_append.1 q with q | q
 ·have h1 := lo _ q
  omega
 have h1 := lo' _ q
 omega
theorem Yl {v : Value} {W b : Nat} (hi : ∀ g ∈ bl v, g < W) (h : W ≤ b) : b ∉ bl v := fun hm => by
 have h2 := hi _ hm
 omega
theorem Ow.lsB {e : TypeId} {k n B : Nat} {w : World} {v : Value} {xs : List Value} (h : Ow w e k v n xs) (hi : ∀ g ∈ bl v, g < B) : Sl w 0 B k v n xs := by
 refine ⟨h.1, ?_⟩
 have hc := fun g off cap => h.cells (g := g) (off := off) (cap := cap)
 rcases h.2 with ⟨rfl, rfl⟩ | ⟨g, off, cap, cur, rfl, hg, h1, h2, h3, _⟩
 ·exact ⟨none, 0, rfl, Nat.le_refl _, Nat.zero_le _, fun h => absurd h (by omega)⟩
 exact ⟨_, cap, rfl, h1, h2, fun _ => ⟨_, rfl, ⟨Nat.zero_le _, hi g (by simp [bl, Value.ownBlock])⟩, fun j u hu => by rw [add_lit]; exact hc g off cap rfl j u hu⟩⟩
theorem Ol.lsB {α : Type} {cs : α → List Value} {e : TypeId} {k B : Nat} {w : World} {v : Value} {xs : List α} (h : Ol cs e k w v xs) (hi : ∀ g ∈ bl v, g < B) : Ls cs k w 0 B v xs := Ow.lsB h hi
theorem ne1 {a b : Nat} (h : a ≠ b) : a ∉ [b] := fun hm => h (List.mem_singleton.1 hm)
theorem Qm {L B b : Nat} (h : b < L ∨ B ≤ b) : ∀ i ∈ [b], i < L ∨ B ≤ i := fun i hi => by
 have h1 := List.mem_singleton.1 hi
 omega
theorem Xa {W b : Nat} {X : List Nat} (h : W ≤ b) : ∀ i ∈ [b], W ≤ i ∨ i ∈ X := fun i hi => by
 have h1 := List.mem_singleton.1 hi
 left
 omega
theorem all3 {a : Nat} {A B : List Nat} {p : Nat → Prop} (h : p a) (hA : ∀ g ∈ A, p g) (hB : ∀ g ∈ B, p g) : ∀ g ∈ a :: (A ++ B), p g := fun g q => by
 rcases List.mem_cons.1 q with q | q
 ·exact q ▸ h
 exact Ys hA hB g q
theorem Xq {z : Value} {n b m : Nat} {l r X : List Nat} (h : ∀ g ∈ bl z, n ≤ g ∨ g ∈ b :: (l ++ r)) (hn : m ≤ n) (hb : m ≤ b ∨ b ∈ X) (hl : ∀ g ∈ l, m ≤ g ∨ g ∈ X) (hr : ∀ g ∈ r, m ≤ g ∨ g ∈ X) : ∀ g ∈ bl z, m ≤ g ∨ g ∈ X := fun g hg => by
 rcases h g hg with q | q
 ·left; omega
 exact all3 (p := fun g => m ≤ g ∨ g ∈ X) hb hl hr g q
theorem mAL {a : Nat} {A : List Nat} (B : List Nat) (h : a ∈ A) : a ∈ A ++ B := List.mem_append_left B h
theorem mAR {b : Nat} (A : List Nat) {B : List Nat} (h : b ∈ B) : b ∈ A ++ B := List.mem_append_right A h
theorem mSg {a b : Nat} : a ∈ [b] ↔ a = b := List.mem_singleton
theorem mCo {a : Nat} (y : Nat) {l : List Nat} (h : a ∈ l) : a ∈ y :: l := List.mem_cons_of_mem y h
theorem rbA {α : Type} {c : Prop} [Decidable c] {a b : α} (h : c) : (if c then a else b) = a := if_pos h
theorem rbB {α : Type} {c : Bool} {a b : α} (h : c = false) : (if c then a else b) = b := by rw [h]; rfl
theorem rbC {c : Prop} [Decidable c] {a b d : Int} (h : c) : (if c then ior a b else d) = ior b a := by rw [if_pos h, Zsc]
theorem rbD {α : Type} {c : Prop} [Decidable c] {a b : α} (h : c) : a = (if c then a else b) := (if_pos h).symm
theorem rbE {c : Prop} [Decidable c] {a b d : Int} (h : c) : ior b a = (if c then ior a b else d) := (rbC h).symm
def lkN (l f : Int) (F : List Int) : Nat → List Int
 | 0 => F
 | k + 1 => if iand (ishr l k) 1 = 1 then (lkN l f F k).set k (ior ((lkN l f F k).getD k 0) f) else lkN l f F k
theorem Zda (l f : Int) (F : List Int) : ∀ k, (lkN l f F k).length = F.length
 | 0 => rfl
 | k + 1 => by unfold lkN; split <;> simp [Zda l f F k]
theorem Zrf {l f y : Int} {F : List Int} {k : Nat} (h : iand (ishr l k) 1 = 1) (hy : (lkN l f F k)[k]? = some y) : (lkN l f F k).set k (ior y f) = lkN l f F (k + 1) := by
 show _ = if _ then _ else _
 rw [if_pos h, Zak hy]
theorem Zqv {l f : Int} {F : List Int} {k : Nat} (h : ¬ iand (ishr l k) 1 = 1) : lkN l f F k = lkN l f F (k + 1) := by
 show _ = if _ then _ else _
 rw [if_neg h]
def lkL (l f : Int) (F : List Int) : List Int := lkN l f F F.length
theorem Zjl (l f : Int) (F : List Int) : (lkL l f F).length = F.length := Zda _ _ _ _
structure BPd where
 L : List Int
 F : List Int
 f : Int
 l : Int
 n : Bool
def bpT : Tr → List Int → List Int → BPd
 | .l0 t, L, F => if t.kind = 2 then ⟨L, F, 0, 0, true⟩ else if t.kind = 3 then ⟨L ++ [t.letter], F ++ [0], ishl 1 L.length, ishl 1 L.length, false⟩ else ⟨L, F, 0, 0, false⟩
 | .l1 t x, L, F => if t.kind = 6 then ⟨(bpT x L F).L, lkL (bpT x L F).l (bpT x L F).f (bpT x L F).F, (bpT x L F).f, (bpT x L F).l, true⟩ else ⟨L, F, 0, 0, false⟩
 | .l2 t x y, L, F =>
  if t.kind = 4 then
   ⟨(bpT y (bpT x L F).L (bpT x L F).F).L, lkL (bpT x L F).l (bpT y (bpT x L F).L (bpT x L F).F).f (bpT y (bpT x L F).L (bpT x L F).F).F,
    if (bpT x L F).n then ior (bpT x L F).f (bpT y (bpT x L F).L (bpT x L F).F).f else (bpT x L F).f,
    if (bpT y (bpT x L F).L (bpT x L F).F).n then ior (bpT x L F).l (bpT y (bpT x L F).L (bpT x L F).F).l else (bpT y (bpT x L F).L (bpT x L F).F).l,
    (bpT x L F).n && (bpT y (bpT x L F).L (bpT x L F).F).n⟩
  else if t.kind = 5 then
   ⟨(bpT y (bpT x L F).L (bpT x L F).F).L, (bpT y (bpT x L F).L (bpT x L F).F).F, ior (bpT x L F).f (bpT y (bpT x L F).L (bpT x L F).F).f, ior (bpT x L F).l (bpT y (bpT x L F).L (bpT x L F).F).l,
    (bpT x L F).n || (bpT y (bpT x L F).L (bpT x L F).F).n⟩
  else ⟨L, F, 0, 0, false⟩
theorem Zbq : ∀ (t : Tr) (L F : List Int), (bpT t L F).L.length ≤ L.length + t.sz ∧ (bpT t L F).F.length ≤ F.length + t.sz
 | .l0 t, L, F => by unfold bpT; repeat' split; all_goals simp [Tr.sz]
 | .l1 t x, L, F => by
  have h := Zbq x L F
  unfold bpT; split
  ·simp only [Zjl, Tr.sz]; omega
  simp only [Tr.sz]; omega
 | .l2 t x y, L, F => by
  have h := Zbq x L F
  have k := Zbq y (bpT x L F).L (bpT x L F).F
  unfold bpT; repeat' split
  all_goals (simp only [Zjl, Tr.sz]; omega)
section
variable {t ta tb : Tr} {L F : List Int}
theorem bp2 (hok : Okd t) (h : t.tok.kind = 2) : bpT t L F = ⟨L, F, 0, 0, true⟩ := by
 have ha := hok.ar
 cases t with
 | l0 t => simp only [Tr.tok] at h; unfold bpT; rw [if_pos h]
 | l1 t x => simp only [Tr.tok, Tr.kids] at h ha; rw [Zaz (by rw [ha]; simp), h] at ha; simp [arK] at ha
 | l2 t x y => simp only [Tr.tok, Tr.kids] at h ha; rw [Zaz (by rw [ha]; simp), h] at ha; simp [arK] at ha
theorem bp3 (hok : Okd t) (h : t.tok.kind = 3) : bpT t L F = ⟨L ++ [t.tok.letter], F ++ [0], ishl 1 L.length, ishl 1 L.length, false⟩ := by
 have ha := hok.ar
 cases t with
 | l0 t => simp only [Tr.tok] at h ⊢; unfold bpT; rw [if_neg (by omega), if_pos h]
 | l1 t x => simp only [Tr.tok, Tr.kids] at h ha; rw [Zaz (by rw [ha]; simp), h] at ha; simp [arK] at ha
 | l2 t x y => simp only [Tr.tok, Tr.kids] at h ha; rw [Zaz (by rw [ha]; simp), h] at ha; simp [arK] at ha
theorem bp4 (hok : Okd t) (h : t.tok.kind = 4) (h0 : t.kids[0]? = some ta) (h1 : t.kids[1]? = some tb) :
   bpT t L F = ⟨(bpT tb (bpT ta L F).L (bpT ta L F).F).L, lkL (bpT ta L F).l (bpT tb (bpT ta L F).L (bpT ta L F).F).f (bpT tb (bpT ta L F).L (bpT ta L F).F).F,
       if (bpT ta L F).n then ior (bpT ta L F).f (bpT tb (bpT ta L F).L (bpT ta L F).F).f else (bpT ta L F).f,
       if (bpT tb (bpT ta L F).L (bpT ta L F).F).n then ior (bpT ta L F).l (bpT tb (bpT ta L F).L (bpT ta L F).F).l else (bpT tb (bpT ta L F).L (bpT ta L F).F).l,
       (bpT ta L F).n && (bpT tb (bpT ta L F).L (bpT ta L F).F).n⟩ := by
 cases t with
 | l0 t => simp [Tr.kids] at h0
 | l1 t x => simp [Tr.kids] at h1
 | l2 t x y =>
  simp [Tr.kids] at h0 h1; subst h0 h1
  simp only [Tr.tok] at h
  rw [bpT, if_pos h]
theorem bp5 (hok : Okd t) (h : t.tok.kind = 5) (h0 : t.kids[0]? = some ta) (h1 : t.kids[1]? = some tb) :
   bpT t L F = ⟨(bpT tb (bpT ta L F).L (bpT ta L F).F).L, (bpT tb (bpT ta L F).L (bpT ta L F).F).F, ior (bpT ta L F).f (bpT tb (bpT ta L F).L (bpT ta L F).F).f, ior (bpT ta L F).l (bpT tb (bpT ta L F).L (bpT ta L F).F).l,
       (bpT ta L F).n || (bpT tb (bpT ta L F).L (bpT ta L F).F).n⟩ := by
 cases t with
 | l0 t => simp [Tr.kids] at h0
 | l1 t x => simp [Tr.kids] at h1
 | l2 t x y =>
  simp [Tr.kids] at h0 h1; subst h0 h1
  simp only [Tr.tok] at h
  rw [bpT, if_neg (by omega), if_pos h]
theorem bp6 (hok : Okd t) (h : t.tok.kind = 6) (h0 : t.kids[0]? = some ta) :
   bpT t L F = ⟨(bpT ta L F).L, lkL (bpT ta L F).l (bpT ta L F).f (bpT ta L F).F, (bpT ta L F).f, (bpT ta L F).l, true⟩ := by
 have ha := hok.ar
 cases t with
 | l0 t => simp [Tr.kids] at h0
 | l1 t x =>
  simp [Tr.kids] at h0; subst h0
  simp only [Tr.tok] at h
  rw [bpT, if_pos h]
 | l2 t x y => simp only [Tr.tok, Tr.kids] at h ha; rw [Zaz (by rw [ha]; simp), h] at ha; simp [arK] at ha
theorem bp0 (h : t.tok.kind ≠ 2 ∧ t.tok.kind ≠ 3 ∧ t.tok.kind ≠ 4 ∧ t.tok.kind ≠ 5 ∧ t.tok.kind ≠ 6) : bpT t L F = ⟨L, F, 0, 0, false⟩ := by
 obtain ⟨h2, h3, h4, h5, h6⟩ := h
 cases t with
 | l0 t => simp only [Tr.tok] at *; rw [bpT, if_neg h2, if_neg h3]
 | l1 t x => simp only [Tr.tok] at *; rw [bpT, if_neg h6]
 | l2 t x y => simp only [Tr.tok] at *; rw [bpT, if_neg h4, if_neg h5]
end
def cntL (l : List Token) : Nat := l.countP fun t => decide (t.kind = 3)
theorem Zmr {l : List Token} {k : Nat} {y : Token} (h : l[k]? = some y) (hk : y.kind = 3) : cntL (l.take (k + 1)) = cntL (l.take k) + 1 := by
 unfold cntL; rw [Zaa h, List.countP_append]; simp [hk]
theorem Zmw {l : List Token} {k : Nat} {y : Token} (h : l[k]? = some y) (hk : ¬ y.kind = 3) : cntL (l.take (k + 1)) = cntL (l.take k) := by
 unfold cntL; rw [Zaa h, List.countP_append]; simp [hk]
theorem Zpw (l : List Token) : cntL l ≤ l.length := List.countP_le_length
def bpE (e : List Token) : BPd × Bool :=
 if (Qc e).2 = true ∧ cntL (Qc e).1 ≤ 20 then
  match Qx (Qc e).1 with
  | some t => (bpT t [] [], true)
  | none => (⟨[], [], 0, 0, false⟩, false)
 else (⟨[], [], 0, 0, false⟩, false)
theorem Xj {e : List Token} (h : ¬ ((Qc e).2 = true ∧ cntL (Qc e).1 ≤ 20)) : bpE e = (⟨[], [], 0, 0, false⟩, false) := by unfold bpE; rw [if_neg h]
theorem Qq {e : List Token} {t : Tr} (h : (Qc e).2 = true) (h1 : cntL (Qc e).1 ≤ 20) (ht : Qx (Qc e).1 = some t) : bpE e = (bpT t [] [], true) := by unfold bpE; rw [if_pos ⟨h, h1⟩, ht]
theorem Zte {x : Tr} (hx : Okd x) : ∀ (low : Int) (h : Nat), Okd (Qz x low h)
 | _, 0 => by show arT _ = 0; rfl
 | low, h + 1 => by
  have ih := Zte hx (if low - 1 > 0 then low - 1 else 0) h
  unfold Qz
  split
  ·exact ⟨rfl, hx, ih⟩
  exact ⟨rfl, ⟨rfl, hx, ih⟩, rfl⟩
theorem Zhk : ∀ {t : Tr}, Okd t → Okd (Xl t)
 | .l0 _, h => h
 | .l1 t a, h => by
  have ih := Zhk h.2
  unfold Xl
  split
  ·exact Zte ih _ _
  exact ⟨h.1, ih⟩
 | .l2 t a b, h => ⟨h.1, Zhk h.2.1, Zhk h.2.2⟩
theorem Zia {e : List Token} (h : (Qc e).2 = true) : ∃ t, Qx (Qc e).1 = some t ∧ Okd t ∧ (Qc e).1 = t.flat ∧ (Qc e).1.length ≤ 400 := by
 have hl := Zhc e
 cases hi : ivE e with
 | false => rw [Zbj hi] at h; cases h
 | true =>
  obtain ⟨t, h1, h2, _, h4⟩ := Zkn hi
  by_cases hb : Xt t ≤ 5000
  ·by_cases hs : (Xl t).sz ≤ 400
   ·have e1 := Zbk h1 h4 hb hs
    rw [e1] at hl ⊢
    exact ⟨Xl t, Zcr (Zhk h2), Zhk h2, rfl, hl⟩
   rw [Zaj h1 hs] at h; cases h
  rw [Zah h1 hb] at h; cases h
end Go.KLib

namespace Go.KLib
def grow (n : Nat) (f : Nat → Nat → Bool) (i : Nat) : List Bool := (List.range n).map (f i)
def grd (n : Nat) (f : Nat → Nat → Bool) : List (List Bool) := (List.range n).map (grow n f)
section
variable {n i j : Nat} {f g : Nat → Nat → Bool}
theorem Zdb : (grow n f i).length = n := by simp [grow]
theorem Ql : (grd n f).length = n := by simp [grd]
theorem Zet (h : j < n) : (grow n f i)[j]? = some (f i j) := by simp [grow, h]
theorem Zho (h : i < n) : (grd n f)[i]? = some (grow n f i) := by simp [grd, h]
theorem Zmh {M : List (List Bool)} {ys : List Bool} (hM : M = grd n f) (h : M[i]? = some ys) : i < n ∧ ys = grow n f i := by
 subst hM
 by_cases hi : i < n
 ·rw [Zho hi] at h; cases h; exact ⟨hi, rfl⟩
 rw [List.getElem?_eq_none (by rw [Ql]; omega)] at h; cases h
theorem Zai {M : List (List Bool)} {ys : List Bool} (hM : M = grd n f) (h : M[i]? = some ys) : ys.length = n := by rw [(Zmh hM h).2, Zdb]
theorem Zbp {M : List (List Bool)} {ys : List Bool} {y : Bool} (hM : M = grd n f) (h : M[i]? = some ys) (hy : ys[j]? = some y) : y = f i j := by
 obtain ⟨h1, rfl⟩ := Zmh hM h
 by_cases hj : j < n
 ·rw [Zet hj] at hy; cases hy; rfl
 rw [List.getElem?_eq_none (by rw [Zdb]; omega)] at hy; cases hy
theorem Zpi (h : ∀ q, q < n → f i q = g i q) : grow n f i = grow n g i := by
 unfold grow
 exact List.map_congr_left fun q hq => h q (List.mem_range.1 hq)
theorem Zby (h : ∀ p q, p < n → q < n → f p q = g p q) : grd n f = grd n g := by
 unfold grd
 exact List.map_congr_left fun p hp => Zpi fun q hq => h p q (List.mem_range.1 hp) hq
theorem Zmg {v : Bool} {M : List (List Bool)} {ys : List Bool} (hM : M = grd n f) (hy : M[i]? = some ys) (hv : g i j = v) (ho : ∀ p q, p < n → q < n → ¬(p = i ∧ q = j) → g p q = f p q) :
   M.set i (ys.set j v) = grd n g := by
 obtain ⟨hi, rfl⟩ := Zmh hM hy
 subst hM
 apply List.ext_getElem?
 intro p
 by_cases hp : p < n
 ·rw [Zho hp]
  rw [List.getElem?_set]
  by_cases e : i = p
  ·subst e
   rw [if_pos rfl, if_pos (by rw [Ql]; exact hi)]
   congr 1
   apply List.ext_getElem?
   intro q
   by_cases hq : q < n
   ·rw [Zet hq, List.getElem?_set]
    by_cases e2 : j = q
    ·subst e2; rw [if_pos rfl, if_pos (by rw [Zdb]; exact hq), hv]
    rw [if_neg e2, Zet hq, ho i q hp hq (fun h => e2 h.2.symm)]
   rw [List.getElem?_eq_none (by rw [List.length_set, Zdb]; omega), List.getElem?_eq_none (by rw [Zdb]; omega)]
  rw [if_neg e, Zho hp]
  congr 1
  exact (Zpi fun q hq => ho p q hp hq (fun h => e h.1.symm)).symm
 rw [List.getElem?_eq_none (by rw [List.length_set, Ql]; omega), List.getElem?_eq_none (by rw [Ql]; omega)]
def idM (s : Bool) : Nat → Nat → Bool := fun i j => s && decide (i = j)
theorem Zsr {s : Bool} : (List.replicate n false).set i s = grow n (idM s) i := by
 apply List.ext_getElem?
 intro q
 rw [List.getElem?_set]
 by_cases e : i = q
 ·subst e
  by_cases hi : i < n
  ·rw [if_pos rfl, if_pos (by simpa using hi), Zet hi]; simp [idM]
  rw [if_pos rfl, if_neg (by simpa using hi), List.getElem?_eq_none (by rw [Zdb]; omega)]
 rw [if_neg e]
 by_cases hq : q < n
 ·rw [Zet hq]; simp [idM, e, hq]
 rw [List.getElem?_eq_none (by simp; omega), List.getElem?_eq_none (by rw [Zdb]; omega)]
def oeM (A B : Nat → Nat → Bool) : Nat → Nat → Bool := fun i j => A i j || B i j
def mulM (n : Nat) (A B : Nat → Nat → Bool) : Nat → Nat → Bool := fun i j => (List.range n).any fun k => A i k && B k j
def Tri (A : Nat → Nat → Bool) : Prop := ∀ i j, j < i → A i j = false
theorem Tri.id (s : Bool) : Tri (idM s) := fun i j h => by simp [idM]; intro _; omega
theorem Tri.or {A B : Nat → Nat → Bool} (a : Tri A) (b : Tri B) : Tri (oeM A B) := fun i j h => by simp [oeM, a i j h, b i j h]
theorem Tri.mul {A B : Nat → Nat → Bool} (a : Tri A) (b : Tri B) : Tri (mulM n A B) := fun i j h => by
 unfold mulM
 rw [List.any_eq_false]
 intro k _
 by_cases hk : k < i
 ·rw [a i k hk]; simp
 rw [b k j (by omega)]; simp
def upt (R : Nat → Nat → Bool) (i j : Nat) : Nat → Nat → Bool := fun p q => (decide (p < i) || (decide (p = i) && decide (q < j))) && R p q
theorem Znp {R : Nat → Nat → Bool} : grd n (idM false) = grd n (upt R 0 0) := Zby fun p q _ _ => by simp [idM, upt]
theorem Zgx {R : Nat → Nat → Bool} {v : Bool} {M : List (List Bool)} {ys : List Bool} (hM : M = grd n (upt R i j)) (hy : M[i]? = some ys) (hv : R i j = v) :
   M.set i (ys.set j v) = grd n (upt R i (j + 1)) := Zmg hM hy (by simp [upt, hv]) fun p q _ _ hn => by
 unfold upt
 by_cases h1 : p = i
 ·subst h1
  have h2 : q ≠ j := fun h => hn ⟨rfl, h⟩
  have h3 : (q < j + 1) = (q < j) := by simp; omega
  simp [h3]
 simp [h1]
theorem Zpn {R : Nat → Nat → Bool} {k : Nat} (hk : n ≤ k) : grd n (upt R i k) = grd n (upt R (i + 1) 0) := Zby fun p q _ hq => by
 unfold upt
 have h3 : (p < i + 1) = (p < i ∨ p = i) := by simp; omega
 have h4 : q < k := by omega
 simp [h3, h4]
theorem Zqb {R : Nat → Nat → Bool} {k : Nat} (hk : n ≤ k) : grd n (upt R k 0) = grd n R := Zby fun p q hp _ => by
 have h4 : p < k := by omega
 simp [upt, h4]
theorem Zuy {R : Nat → Nat → Bool} (h : Tri R) : grd n (upt R i 0) = grd n (upt R i i) := Zby fun p q _ _ => by
 unfold upt
 by_cases h1 : p = i
 ·subst h1
  by_cases h2 : q < p
  ·simp [h2, h p q h2]
  simp [h2]
 simp [h1]
end
section
variable {n i j k : Nat} {A B : Nat → Nat → Bool}
def mupt (n : Nat) (A B : Nat → Nat → Bool) (i k j : Nat) : Nat → Nat → Bool := fun p q =>
 (decide (p < i) && mulM n A B p q) || (decide (p = i) && (((List.range k).any fun m => A i m && B m q) || (decide (q < j) && (A i k && B k q))))
theorem Zle : grd n (idM false) = grd n (mupt n A B 0 0 0) := Zby fun p q _ _ => by simp [idM, mupt]
theorem Zez {v : Bool} {M : List (List Bool)} {ys : List Bool} (hM : M = grd n (mupt n A B i k j)) (hy : M[i]? = some ys) (hA : A i k = true) (hv : v = (mupt n A B i k j i j || B k j)) :
   M.set i (ys.set j v) = grd n (mupt n A B i k (j + 1)) := Zmg hM hy (by rw [hv]; simp [mupt, hA]) fun p q _ _ hn => by
 unfold mupt
 by_cases h1 : p = i
 ·subst h1
  have h2 : q ≠ j := fun h => hn ⟨rfl, h⟩
  have h3 : (q < j + 1) = (q < j) := by simp; omega
  simp [h3]
 simp [h1]
theorem Zcm (h : n ≤ j ∨ A i k = false) : grd n (mupt n A B i k j) = grd n (mupt n A B i (k + 1) 0) := Zby fun p q _ hq => by
 unfold mupt
 rw [List.range_succ, List.any_append]
 by_cases h1 : p = i
 ·subst h1
  rcases h with h | h
  ·have h3 : q < j := by omega
   simp [h3]
  simp [h]
 simp [h1]
theorem Zla (h : k = n) : grd n (mupt n A B i k 0) = grd n (mupt n A B (i + 1) 0 0) := Zby fun p q _ _ => by
 unfold mupt
 have h3 : (p < i + 1) = (p < i ∨ p = i) := by simp; omega
 by_cases h1 : p = i
 ·subst h1
  subst h
  simp [mulM]
 have h2 : ¬ p = i := h1
 simp [h3, h2]
theorem Zna (h : n ≤ i) : grd n (mupt n A B i 0 0) = grd n (mulM n A B) := Zby fun p q hp _ => by
 have h3 : p < i := by omega
 have h4 : ¬ p = i := by omega
 simp [mupt, h3, h4]
theorem Zqs (h : Tri A) : grd n (mupt n A B i 0 0) = grd n (mupt n A B i i 0) := Zby fun p q _ _ => by
 have h4 : ((List.range i).any fun m => A i m && B m q) = false := by
  rw [List.any_eq_false]; intro m hm; rw [h i m (List.mem_range.1 hm)]; simp
 simp [mupt, h4]
theorem Zqr (h : Tri B) : grd n (mupt n A B i k 0) = grd n (mupt n A B i k k) := Zby fun p q _ _ => by
 by_cases h1 : q < k
 ·simp [mupt, h k q h1]
 simp [mupt, h1]
end
section
variable {n k : Nat} {A : Nat → Nat → Bool} {low : Int}
def powM (n : Nat) (A : Nat → Nat → Bool) : Nat → Nat → Nat → Bool
 | 0 => idM true
 | k + 1 => mulM n (powM n A k) A
def repM (n : Nat) (A : Nat → Nat → Bool) (low : Int) (k : Nat) : Nat → Nat → Bool := fun i j => (List.range k).any fun m => decide (low ≤ (m : Int)) && powM n A m i j
theorem Zcy (h : Tri A) : ∀ k, Tri (powM n A k)
 | 0 => Tri.id true
 | k + 1 => (Zcy h k).mul h
theorem Zjn (h : Tri A) : Tri (repM n A low k) := fun i j hij => by
 unfold repM
 rw [List.any_eq_false]
 intro m _
 rw [Zcy h m i j hij]; simp
theorem Znk : grd n (idM false) = grd n (repM n A low 0) := Zby fun p q _ _ => by simp [idM, repM]
theorem Zjk : grd n (mulM n (powM n A k) A) = grd n (powM n A (k + 1)) := by rw [powM]
theorem Zve (h : low ≤ (k : Int)) : grd n (oeM (repM n A low k) (powM n A k)) = grd n (repM n A low (k + 1)) := Zby fun p q _ _ => by
 unfold repM oeM
 rw [List.range_succ, List.any_append]
 simp [h]
theorem Zvh (h : ¬ low ≤ (k : Int)) : grd n (repM n A low k) = grd n (repM n A low (k + 1)) := Zby fun p q _ _ => by
 unfold repM
 rw [List.range_succ, List.any_append]
 simp [h]
end
theorem Zgf {o : Value} {g i : Nat} (h : i ∉ bl o) (hg : bl o = [g]) : i < g ∨ g + 1 ≤ i := by
 rw [hg] at h
 have : i ≠ g := fun e => h (List.mem_singleton.2 e)
 omega
theorem Ol.lsE {α : Type} {cs : α → List Value} {e k : Nat} {w : World} {v : Value} {xs : List α} (h : Ol cs e k w v xs) (hn : 0 < xs.length) : ∃ g, bl v = [g] ∧ Ls cs k w g (g + 1) v xs := by
 have hc := fun g off cap => Ow.cells (g := g) (off := off) (cap := cap) h
 rcases h.2 with ⟨rfl, h0⟩ | ⟨g, off, cap, cur, rfl, hg, h1, h2, h3, _⟩
 ·omega
 exact ⟨g, by simp [bl, Value.ownBlock], h.1, _, cap, rfl, h1, h2, fun _ => ⟨_, rfl, ⟨Nat.le_refl _, Nat.lt_succ_self _⟩, fun j u hu => by rw [add_lit]; exact hc g off cap rfl j u hu⟩⟩
theorem Od.eq {α : Type} {cs : α → List Value} {e k : Nat} {w : World} {lo hi : Nat} {vs : List Sv} {xs ys : List (List α)} (h : Od cs e k w lo hi vs xs) (he : xs = ys) : Od cs e k w lo hi vs ys := he ▸ h
end Go.KLib

