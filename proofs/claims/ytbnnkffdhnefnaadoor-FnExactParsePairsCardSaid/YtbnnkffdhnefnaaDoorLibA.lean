/- The library of this proof: a logic of the code's forms, memory, data, and plain laws. It speaks of no program. -/
import Derived.WalkKit
import Derived.OrdersHeld
import Derived.WalkLawsBesides
import Derived.WalkSpells
import Derived.ProofKit
import Derived.Deep.Slices
import Derived.Deep.Fields
import Derived.Lib.SmallJoins
import Derived.Laws.Append
import Derived.Laws.CopyRow
import Derived.Laws.AppendOwn
import Derived.Laws.Small
import Derived.Shelf.Sort.Plain
import Derived.Shelf.Slices.CompactI
import Derived.Shelf.Slices.Delete
import Derived.Ground.NamesProg
import Derived.Ground.Names2Prog
import Derived.Shelf.Lay
import Derived.Shelf.Slices.In.SortNone
import Derived.MapKept
import Derived.Ground.SlsfProg
import Derived.Shelf.SlSortCmp.NoneTotal
import Derived.Laws.BytesString
import Derived.Laws.Strings2
import Derived.Laws.Concat
import Derived.Shelf.Strconv.Itoa3
import Derived.Shelf.Strings.OnBuilder
import Derived.Lib.Split
import Derived.Shelf.Strings.SplitShaped
import Derived.Lib.AppendZerosOnto
import Derived.Lib.Overlaps
import Derived.Handed
import Derived.ShapedOpen

namespace Go.KLib
theorem Yq {p : Prop} {_ : Decidable p} (h : decide p = true) : p := of_decide_eq_true h
theorem Yr {p : Prop} {_ : Decidable p} (h : decide p = false) : ¬ p := of_decide_eq_false h
theorem Xx {b : Bool} (h : (!b) = true) : b = false := by cases b <;> simp_all
theorem Xy {b : Bool} (h : (!b) = false) : b = true := by cases b <;> simp_all
theorem bt_e {b c : Bool} (h : (b == c) = true) : b = c := by simpa using h
theorem bf_e {b c : Bool} (h : (b == c) = false) : ¬ b = c := by simpa using h
abbrev KL := List (Nat × Value)
def Xj : KL → Nat → Option Value
 | [], _ => none
 | p :: l, t => bif Nat.beq p.1 t then some p.2 else Xj l t
def ev (l : KL) : Operand → Option Value
 | .tmp t => Xj l t
 | .const v => some v
 | .global g => some (.pointer (some ⟨g, 0, none⟩))
 | .func f => some (.func (.func f) #[] #[])
structure Kn (N : Nat) (a : Act) (l : KL) : Prop where
 defers : a.defers = []
 size : a.tmps.size = N
 slot : ∀ t v, Xj l t = some v → a.tmps.getD t undef = v
theorem Kn.eval {N : Nat} {a : Act} {l : KL} (h : Kn N a l) {x : Operand} {v : Value} (hx : ev l x = some v) : a.eval x = v := by
 cases x with
 | tmp t => exact h.slot t v hx
 | const u => simpa [ev, Act.eval] using hx
 | global g => simpa [ev, Act.eval] using hx
 | func f => simpa [ev, Act.eval] using hx
theorem Kn.put {N : Nat} {a : Act} {l : KL} (h : Kn N a l) {d : Nat} (hd : d < N) (v : Value) : Kn N (a.put (some d) v) ((d, v) :: l) := by
 refine ⟨h.defers, by simp [Act.put, h.size], fun t u hu => ?_⟩
 have hdl : d < a.tmps.size := h.size ▸ hd
 simp only [Xj] at hu
 by_cases e : d = t
 ·subst e
  simp at hu
  subst hu
  simp [Act.put, Array.getD_eq_getD_getElem?, hdl]
 have e' : Nat.beq d t = false := Bool.eq_false_iff.2 (fun h => e (Nat.eq_of_beq_eq_true h))
 rw [e'] at hu
 have := h.slot t u hu
 simp only [Act.put, Array.getD_eq_getD_getElem?] at this ⊢
 rw [Array.getElem?_setIfInBounds_ne e]
 exact this
def pu (l : KL) (d : Option Tmp) (v : Value) : KL :=
 match d with
 | some d => (d, v) :: l
 | none => l
def dOk (N : Nat) (d : Option Tmp) : Bool :=
 match d with
 | some d => Nat.blt d N
 | none => true
theorem Kn.pu {N : Nat} {a : Act} {l : KL} (h : Kn N a l) {d : Option Tmp} (hd : dOk N d = true) (v : Value) : Kn N (a.put d v) (pu l d v) := by
 cases d with
 | none => exact h
 | some d => exact h.put (by simpa [dOk, Nat.blt_eq] using hd) v
def Sub (l l' : KL) : Prop := ∀ t v, Xj l t = some v → Xj l' t = some v
theorem Sub.refl (l : KL) : Sub l l := fun _ _ h => h
theorem Sub.nil (l : KL) : Sub [] l := fun _ _ h => by simp [Xj] at h
theorem Sub.cons {l l' : KL} {t : Nat} {v : Value} (h : Xj l' t = some v) (hs : Sub l l') : Sub ((t, v) :: l) l' := by
 intro u x hx
 simp only [Xj] at hx
 by_cases e : t = u
 ·subst e
  simp at hx
  subst hx
  exact h
 have e' : Nat.beq t u = false := Bool.eq_false_iff.2 (fun h => e (Nat.eq_of_beq_eq_true h))
 rw [e'] at hx
 exact hs u x hx
theorem Kn.sub {N : Nat} {a : Act} {l l' : KL} (h : Kn N a l') (hs : Sub l l') : Kn N a l := ⟨h.defers, h.size, fun t v hv => h.slot t v (hs t v hv)⟩
abbrev Po := Exit → KL → World → Prop
def up (N : Nat) (Q : Po) : Exit → Act → World → Prop
 | .panic _, _, _ => False
 | .outgrown, _, _ => False
 | e, a, w => ∃ l, Kn N a l ∧ Q e l w
def W (P : Program) (N : Nat) (c : Code) (Q : Po) (l : KL) (w : World) : Prop := ∀ a, Kn N a l → Code.wp P c (up N Q) a w
def thn (K : KL → World → Prop) (Q : Po) : Po
 | .normal, l, w => K l w
 | e, l, w => Q e l w
def inB (id : Nat) (Q : Po) : Po
 | .exit i, l, w => bif Nat.beq i id then Q .normal l w else Q (.exit i) l w
 | e, l, w => Q e l w
section rules
variable {P : Program} {N : Nat} {Q : Po} {l : KL} {w : World}
theorem Zg {x y : Code} (h : ∀ K : KL → World → Prop, (∀ l w, W P N y Q l w → K l w) → W P N x (thn K Q) l w) : W P N (.seq x y) Q l w := by
 intro a ha
 refine wp_seq (wp_mono (h (W P N y Q) (fun _ _ h => h) a ha) fun e a' w' he => ?_)
 cases e <;> simp only [up, thn, Exit.then] at he ⊢ <;> first | exact he | (obtain ⟨l', hl, hw⟩ := he; exact hw a' hl)
theorem Zm (h : Q .normal l w) : W P N .skip Q l w := fun _ ha => wp_skip ⟨l, ha, h⟩
theorem Zl (h : Q .ret l w) : W P N .ret Q l w := fun _ ha => wp_ret ⟨l, ha, h⟩
theorem Xw {id : Nat} (h : Q (.exit id) l w) : W P N (.exit id) Q l w := fun _ ha => wp_exit ⟨l, ha, h⟩
theorem Ya {id : Nat} {c : Code} (h : W P N c (inB id Q) l w) : W P N (.block id c) Q l w := by
 intro a ha
 refine wp_block (wp_mono (h a ha) fun e a' w' he => ?_)
 cases e with
 | exit i =>
  obtain ⟨l', hl, hq⟩ := he
  simp only [Exit.inBlock]
  by_cases hi : i = id
  ·subst hi
   simp [inB] at hq
   simpa using ⟨l', hl, hq⟩
  have hi' : Nat.beq i id = false := Bool.eq_false_iff.2 (fun h => hi (Nat.eq_of_beq_eq_true h))
  simp only [inB, hi', cond_false] at hq
  rw [if_neg hi]
  exact ⟨l', hl, hq⟩
 | normal => exact he
 | goto n => exact he
 | ret => exact he
 | panic c => exact he
 | outgrown => exact he
theorem Zo {c : Operand} {x y : Code} {b : Bool} (hc : ev l c = some (.bool b)) (ht : b = true → W P N x Q l w) (hf : b = false → W P N y Q l w) :
 W P N (.cond c x y) Q l w := fun a ha => wp_cond_split (ha.eval hc) (fun h => ht h a ha) (fun h => hf h a ha)
theorem Zba {c : Operand} {x y : Code} (hc : ev l c = some (.bool true)) (ht : W P N x Q l w) : W P N (.cond c x y) Q l w := fun a ha => wp_cond_true (ha.eval hc) (ht a ha)
theorem Zbr {c : Operand} {x y : Code} (hc : ev l c = some (.bool false)) (hf : W P N y Q l w) : W P N (.cond c x y) Q l w := fun a ha => wp_cond_false (ha.eval hc) (hf a ha)
theorem Qk {c : Code} {σ : Type} (L : σ → KL) (I : σ → World → Prop) (μ : σ → Nat) (s0 : σ) (hL : Sub (L s0) l) (h0 : I s0 w)
    (round : ∀ s w, I s w → W P N c (thn (fun l' w' => ∃ s', I s' w' ∧ Sub (L s') l' ∧ μ s' < μ s) Q) (L s) w) : W P N (.loop c) Q l w := by
  intro a ha b k cs
  have key : ∀ n s a w, μ s = n → I s w → Kn N a (L s) →
      ∃ e a' w', up N Q e a' w' ∧ Arrives P (lone (b.at a (.code c :: .inLoop c :: k)) cs w) b k cs e a' w' := by
    intro n
    induction n using Nat.strongRecOn with
    | _ n ih =>
      intro s a w hn hI hK
      obtain ⟨e, a₁, w₁, hq, harr⟩ := round s w hI a hK b (.inLoop c :: k) cs
      cases e with
      | normal =>
        obtain ⟨l₁, hl₁, s', hI', hs', hlt⟩ := hq
        obtain ⟨e₂, a₂, w₂, hq₂, harr₂⟩ := ih (μ s') (hn ▸ hlt) s' a₁ w₁ rfl hI' (hl₁.sub hs')
        exact ⟨e₂, a₂, w₂, hq₂, .of_steps (Steps.trans harr (.one step_inLoop)) harr₂⟩
      | exit id => exact ⟨.exit id, a₁, w₁, hq, .pass (x := .inLoop c) rfl (fun _ _ => .inl (by simp)) harr⟩
      | goto n => exact ⟨.goto n, a₁, w₁, hq, .pass (x := .inLoop c) rfl (fun _ _ => .inl (by simp)) harr⟩
      | ret => exact ⟨.ret, a₁, w₁, hq, .pass (x := .inLoop c) rfl (fun _ _ => .inl (by simp)) harr⟩
      | panic ch => exact hq.elim
      | outgrown => exact hq.elim
  obtain ⟨e, a', w', hq, harr⟩ := key _ s0 a w rfl h0 (ha.sub hL)
  exact ⟨e, a', w', hq, .of_steps (.one step_loop) harr⟩
def Yg (P : Program) (l : KL) (o : Oper) (w : World) (v : Value) (w' : World) : Prop :=
 ∀ ρ : Operand → Value, (∀ x u, ev l x = some u → ρ x = u) → (execOp ρ o).run P w = .ok (.value v) w'
def Zhe (P : Program) (l : KL) (o : Oper) (w : World) (w' : World) : Prop :=
 ∀ ρ : Operand → Value, (∀ x u, ev l x = some u → ρ x = u) → (execOp ρ o).run P w = .ok .skip w'
def Zgz (P : Program) (l : KL) (o : Oper) (w : World) (f : FuncId) (args : Array Value) : Prop :=
 ∀ ρ : Operand → Value, (∀ x u, ev l x = some u → ρ x = u) → (execOp ρ o).run P w = .ok (.enter f args) w
def yl (ops : Array Oper) (l : KL) (j : Nat) : Option (Option Bool) :=
 match (ops[j]?).bind (·.dst) with
 | none => some none
 | some d => match Xj l d with
  | some (.bool b) => some (some b)
  | some (.tuple _) => some none
  | _ => none
def Qv (ops : Array Oper) (l : KL) (o : Oper) : Option Bool :=
 match o.guard with
 | none => some true
 | some (j, want) => match yl ops l j with
  | some (some b) => some (b == want)
  | some none => some false
  | none => none
theorem Xf {ops : Array Oper} {a : Act} {o : Oper} {b : Bool} (ha : Kn N a l) (h : Qv ops l o = some b) : Region.wanted o (yielded ops a.tmps) = b := by
 unfold Qv at h
 unfold Region.wanted
 cases hg : o.guard with
 | none => simp [hg] at h; simp [h]
 | some g =>
  obtain ⟨j, want⟩ := g
  simp only [hg] at h ⊢
  have key : ∀ r, yl ops l j = some r → yielded ops a.tmps j = r := by
   intro r hr
   unfold yl at hr
   unfold yielded
   cases hd : (ops[j]?).bind (·.dst) with
   | none => simp [hd] at hr; simp [← hr]
   | some d =>
    simp only [hd] at hr
    cases hl : Xj l d with
    | none => simp [hl] at hr
    | some v =>
     have hv := ha.slot d v hl
     rw [Array.getD_eq_getD_getElem?] at hv
     simp only [hl] at hr
     cases hs : a.tmps[d]? with
     | none =>
      rw [hs] at hv
      simp [undef] at hv
      subst hv
      simp at hr
      simp [hs, ← hr]
     | some u =>
      rw [hs] at hv
      simp at hv
      subst hv
      cases u <;> simp at hr <;> simp [hs, ← hr]
  cases hy : yl ops l j with
  | none => simp [hy] at h
  | some r =>
   rw [key r hy]
   cases r with
   | none => simp [hy] at h; simp [← h]
   | some c => simp [hy] at h; simp [← h]
def WL (P : Program) (N : Nat) (ops : Array Oper) (Q : Po) (rest : List Oper) (l : KL) (w : World) : Prop := ∀ a, Kn N a l → wpList P ops (up N Q) rest a w
variable {ops : Array Oper} {rest : List Oper} {o : Oper}
theorem Zc {id : Nat} {os : List Oper} (h : WL P N os.toArray Q os l w) : W P N (.region id os.toArray false) Q l w := fun a ha => wp_region_lit (h a ha)
theorem Zf (h : Q .normal l w) : WL P N ops Q [] l w := fun _ ha => wpList_nil ⟨l, ha, h⟩
theorem Zdv {l' : KL} (hs : Sub l l') (h : WL P N ops Q rest l w) : WL P N ops Q rest l' w := fun a ha => h a (ha.sub hs)
theorem Za (hd : dOk N o.dst = true) (hg : Qv ops l o = some true) {v : Value} {w' : World} (hr : Yg P l o w v w') (h : WL P N ops Q rest (pu l o.dst v) w') : WL P N ops Q (o :: rest) l w := by
 intro a ha
 refine wpList_step fun K hK => ?_
 rw [if_pos (Xf ha hg)]
 unfold Oper.wp
 rw [hr a.eval (fun x u hx => ha.eval hx)]
 exact hK _ _ (h _ (ha.pu hd v))
theorem Zn (hd : dOk N o.dst = true) (hg : Qv ops l o = some false) (h : WL P N ops Q rest (pu l o.dst undef) w) : WL P N ops Q (o :: rest) l w := by
 intro a ha
 refine wpList_step fun K hK => ?_
 rw [if_neg (by rw [Xf ha hg]; simp)]
 exact hK _ _ (h _ (ha.pu hd undef))
def Ctr (P : Program) (f : FuncId) (args : Array Value) (w : World) (R : Value → World → Prop) : Prop :=
 Calls P f args w fun e w' => ∃ v, e = .returned v ∧ R v w'
theorem Ctr.mono {f : FuncId} {args : Array Value} {R R' : Value → World → Prop} (h : Ctr P f args w R) (hr : ∀ v w', R v w' → R' v w') : Ctr P f args w R' :=
 Calls.mono h fun _ _ ⟨v, he, hv⟩ => ⟨v, he, hr _ _ hv⟩
theorem Qa {d : Nat} {b : Bool} (hd : Xj l d = some (.bool b)) (ht : b = true → WL P N ops Q rest ((d, .bool true) :: l) w) (hf : b = false → WL P N ops Q rest ((d, .bool false) :: l) w) : WL P N ops Q rest l w := by
 cases b
 ·exact Zdv (Sub.cons hd (Sub.refl l)) (hf rfl)
 exact Zdv (Sub.cons hd (Sub.refl l)) (ht rfl)
def DR (P : Program) (N : Nat) (ops : Array Oper) (Q : Po) (S : World → Prop) (fuel : Nat) (listed : Array Bool) (l : KL) (w : World) : Prop :=
 ∀ a, Kn N a l → S w → wpAnyH P .any ops (up N Q) S fuel listed a w
theorem Zfw {S : World → Prop} {fuel : Nat} {listed : Array Bool} {l' : KL} (hs : Sub l l') (h : DR P N ops Q S fuel listed l w) : DR P N ops Q S fuel listed l' w := fun a ha => h a (ha.sub hs)
theorem Zhf {id : Nat} (S : World → Prop) (hm : P.follows .mixedOrders = true) (hS : S { w with drawn := w.drawn + 1 })
   (h : DR P N ops Q S ops.size (Array.replicate ops.size false) l { w with drawn := w.drawn + 1 }) : W P N (.region id ops true) Q l w :=
 fun a ha => wp_region_held (S := S) hm (h a ha hS)
def Zan (ops : Array Oper) (listed : Array Bool) (i : Nat) : Bool := Region.noSelect ops && Region.free .any ops listed i && (Region.ready .any ops listed).contains i
theorem Zgg {S : World → Prop} {fuel : Nat} {listed : Array Bool} (i : Nat) (hi : ops[i]? = some o) (hk : Zan ops listed i = true) (hd : dOk N o.dst = true) (hg : Qv ops l o = some true) {v : Value}
   (hr : ∀ w, S w → Yg P l o w v w) (h : DR P N ops Q S fuel (listed.setIfInBounds i true) (pu l o.dst v) w) : DR P N ops Q S (fuel + 1) listed l w := by
 intro a ha hS
 simp only [Zan, Bool.and_eq_true] at hk
 refine wpAnyH_take hi hk.1.1 hk.1.2 hk.2 (fun c a w hq => hq) (v := v) (.inl ⟨Xf ha hg, fun w hw => hr w hw a.eval (fun x u hx => ha.eval hx)⟩) hS ?_
 exact h _ (ha.pu hd v) hS
theorem Zgq {S : World → Prop} {fuel : Nat} {listed : Array Bool} (i : Nat) (hi : ops[i]? = some o) (hk : Zan ops listed i = true) (hd : dOk N o.dst = true) (hg : Qv ops l o = some false)
   (h : DR P N ops Q S fuel (listed.setIfInBounds i true) (pu l o.dst undef) w) : DR P N ops Q S (fuel + 1) listed l w := by
 intro a ha hS
 simp only [Zan, Bool.and_eq_true] at hk
 refine wpAnyH_take hi hk.1.1 hk.1.2 hk.2 (fun c a w hq => hq) (v := undef) (.inr ⟨Xf ha hg, rfl⟩) hS ?_
 exact h _ (ha.pu hd undef) hS
theorem Zfu {S : World → Prop} {fuel : Nat} {listed : Array Bool} {rs : List Nat} (hr : Region.ready .any ops listed = rs) (hne : rs ≠ [])
   (h : ∀ i ∈ rs, ∀ a, Kn N a l → S w → wpOp P ops (up N Q) i (fun a' w' => S w' ∧ wpAnyH P .any ops (up N Q) S fuel (listed.setIfInBounds i true) a' w') a w) : DR P N ops Q S (fuel + 1) listed l w :=
 fun a ha hS => wpAnyH_all hr hne fun i hi => h i hi a ha hS
def DO (P : Program) (N : Nat) (ops : Array Oper) (Q : Po) (S : World → Prop) (fuel : Nat) (listed : Array Bool) (i : Nat) (l : KL) (w : World) : Prop :=
 ∀ a, Kn N a l → S w → wpOp P ops (up N Q) i (fun a' w' => S w' ∧ wpAnyH P .any ops (up N Q) S fuel (listed.setIfInBounds i true) a' w') a w
theorem Zhg {S : World → Prop} {fuel : Nat} {listed : Array Bool} (i : Nat) (hr : Region.ready .any ops listed = [i]) (h : DO P N ops Q S fuel listed i l w) : DR P N ops Q S (fuel + 1) listed l w :=
 Zfu hr (by simp) (by intro k hk; rw [List.mem_singleton.1 hk]; exact h)
theorem Zch {S : World → Prop} {fuel : Nat} {listed : Array Bool} (i j : Nat) (hr : Region.ready .any ops listed = [i, j]) (h1 : DO P N ops Q S fuel listed i l w) (h2 : DO P N ops Q S fuel listed j l w) : DR P N ops Q S (fuel + 1) listed l w :=
 Zfu hr (by simp) (by intro k hk; rcases List.mem_cons.1 hk with rfl | hk; exact h1; rw [List.mem_singleton.1 hk]; exact h2)
theorem Qe {S : World → Prop} {fuel : Nat} {listed : Array Bool} {d : Nat} {b : Bool} (hd : Xj l d = some (.bool b)) (ht : b = true → DR P N ops Q S fuel listed ((d, .bool true) :: l) w)
   (hf : b = false → DR P N ops Q S fuel listed ((d, .bool false) :: l) w) : DR P N ops Q S fuel listed l w := by
 cases b
 ·exact Zfw (Sub.cons hd (Sub.refl l)) (hf rfl)
 exact Zfw (Sub.cons hd (Sub.refl l)) (ht rfl)
theorem Yk {S : World → Prop} {fuel : Nat} {listed : Array Bool} (hr : Region.ready .any ops listed = []) (h : Q .normal l w) : DR P N ops Q S fuel listed l w :=
 fun _ ha _ => wpAnyH_done hr ⟨l, ha, h⟩ fuel
def Zbq (P : Program) (l : KL) (w : World) : List ResultVar → List Value → Prop
 | [], [] => True
 | .tmp t :: rs, v :: vs => Xj l t = some v ∧ Zbq P l w rs vs
 | .cell t ty :: rs, v :: vs => (∃ a, Xj l t = some (.pointer (some a)) ∧ (loadVar ty a).run P w = .ok v w) ∧ Zbq P l w rs vs
 | _, _ => False
def Zbo (vs : List Value) : Value := match vs with | [v] => v | vs => .tuple vs.toArray
def resF (a : Act) : ResultVar → Sem Value
 | .tmp t => pure (a.tmps.getD t undef)
 | .cell x t => do loadVar t (← asAddr (a.tmps.getD x undef))
theorem Zdn (fn : Func) (a : Act) : results fn a.tmps = (fn.results.mapM (resF a) >>= fun vs => pure (if h : vs.size = 1 then vs[0] else .tuple vs)) := by
 unfold results
 congr 1
theorem Zbf {a : Act} (ha : Kn N a l) (fn : Func) {vs : List Value} (h : Zbq P l w fn.results.toList vs) : (results fn a.tmps).run P w = .ok (Zbo vs) w := by
 have key : ∀ (rs : List ResultVar) (vs : List Value), Zbq P l w rs vs → (rs.mapM (resF a)).run P w = .ok vs w := by
  intro rs
  induction rs with
  | nil => intro vs h; cases vs <;> simp [Zbq] at h ⊢
  | cons r rs ih =>
   intro vs h
   cases vs with
   | nil => cases r <;> simp [Zbq] at h
   | cons v vs =>
    have hv : (resF a r).run P w = .ok v w ∧ Zbq P l w rs vs := by
     cases r with
     | tmp t =>
      obtain ⟨h1, h2⟩ := h
      exact ⟨by simp only [resF, ha.slot t v h1]; rfl, h2⟩
     | cell t ty =>
      obtain ⟨⟨p, h1, h3⟩, h2⟩ := h
      refine ⟨?_, h2⟩
      have hA : (asAddr (a.tmps.getD t undef)).run P w = .ok p w := by rw [ha.slot t _ h1]; rfl
      simp only [resF, Sem.run_bind, hA, Result.andThen_ok, h3]
    simp only [List.mapM_cons, Sem.run_bind, Sem.run_pure, Result.andThen_ok, hv.1, ih vs hv.2]
 have h1 := key _ _ h
 have h2 : (fn.results.mapM (resF a)).run P w = .ok vs.toArray w := by
  rw [← Array.toArray_toList (xs := fn.results), List.mapM_toArray]
  simp only [Sem.run_map, h1, Result.andThen_ok]
 rw [Zdn, Sem.run_bind, h2]
 show Result.ok _ w = Result.ok _ w
 congr 1
 match vs with
 | [] => simp [Zbo]
 | [v] => simp [Zbo]
 | v :: u :: vs => simp [Zbo]
def retP (P : Program) (rs : List ResultVar) (R : Value → World → Prop) : Po
 | .normal, l, w | .ret, l, w => ∃ vs, Zbq P l w rs vs ∧ R (Zbo vs) w
 | _, _, _ => False
def Zdq : Nat → List Value → KL
 | _, [] => []
 | i, v :: vs => (i, v) :: Zdq (i + 1) vs
theorem Zdp : ∀ (vs : List Value) (i t : Nat) (v : Value), Xj (Zdq i vs) t = some v → i ≤ t ∧ vs[t - i]? = some v := by
 intro vs
 induction vs with
 | nil => intro i t v h; simp [Zdq, Xj] at h
 | cons x vs ih =>
  intro i t v h
  simp only [Zdq, Xj] at h
  by_cases e : i = t
  ·subst e; simp at h; simp [h]
  have e' : Nat.beq i t = false := Bool.eq_false_iff.2 (fun h => e (Nat.eq_of_beq_eq_true h))
  rw [e'] at h
  obtain ⟨h1, h2⟩ := ih (i + 1) t v h
  refine ⟨by omega, ?_⟩
  rw [show t - i = (t - (i + 1)) + 1 from by omega]
  simpa using h2
theorem Zx {f : FuncId} {fn : Func} {c : Code} {vs0 : List Value} {R : Value → World → Prop} (hf : P.funcs[f]? = some fn) (hb : fn.body = some c) (hn : fn.ntmps = N) (hle : Nat.ble vs0.length N = true)
   (h : W P N c (retP P fn.results.toList R) (Zdq 0 vs0) w) : Ctr P f vs0.toArray w R := by
 refine calls_of_wp hf hb (wp_mono (h _ ⟨rfl, ?_, fun t v hv => ?_⟩) fun e a w' he => ?_)
 ·have := Nat.le_of_ble_eq_true hle
  simp [hn]; omega
 ·obtain ⟨_, h2⟩ := Zdp vs0 0 t v hv
  simp only [Nat.sub_zero] at h2
  rw [Array.getD_eq_getD_getElem?, Array.getElem?_append_left (by have := (List.getElem?_eq_some_iff.1 h2).1; simpa using this)]
  simp [h2]
 cases e with
 | normal =>
  obtain ⟨l', hl, vs, hr, hR⟩ := he
  exact ⟨hl.defers, _, Zbf hl fn hr, _, rfl, hR⟩
 | ret =>
  obtain ⟨l', hl, vs, hr, hR⟩ := he
  exact ⟨hl.defers, _, Zbf hl fn hr, _, rfl, hR⟩
 | exit id => obtain ⟨_, _, h⟩ := he; exact h.elim
 | goto n => obtain ⟨_, _, h⟩ := he; exact h.elim
 | panic ch => exact he.elim
 | outgrown => exact he.elim
theorem Zi {K : KL → World → Prop} (h : Q .ret l w) : thn K Q .ret l w := h
theorem Zp {id : Nat} (h : Q .ret l w) : inB id Q .ret l w := h
theorem Zr {K : KL → World → Prop} {i : Nat} (h : Q (.exit i) l w) : thn K Q (.exit i) l w := h
theorem Xi {i : Nat} (h : Q .normal l w) : inB i Q (.exit i) l w := by
 show (bif Nat.beq i i then Q .normal l w else Q (.exit i) l w)
 rw [Nat.beq_refl]
 exact h
theorem Zb {K : KL → World → Prop} (h : K l w) : thn K Q .normal l w := h
theorem Yd {id : Nat} (h : Q .normal l w) : inB id Q .normal l w := h
theorem Zh {rs : List ResultVar} {R : Value → World → Prop} (vs : List Value) (hr : Zbq P l w rs vs) (hR : R (Zbo vs) w) : retP P rs R .ret l w := ⟨vs, hr, hR⟩
def Step (P : Program) (l : KL) (o : Oper) (w : World) (K : Value → World → Prop) : Prop :=
 ∀ (a : Act) (K' : Act → World → Prop) (Q' : Exit → Act → World → Prop), (∀ x u, ev l x = some u → a.eval x = u) → (∀ v w', K v w' → K' (a.put o.dst v) w') → o.wp P a w K' Q'
theorem Step.of {v : Value} {w' : World} {K : Value → World → Prop} (hr : Yg P l o w v w') (h : K v w') : Step P l o w K := by
 intro a K' Q' ha hK
 unfold Oper.wp
 rw [hr a.eval ha]
 exact hK v w' h
theorem Step.ofU {w' : World} {K : Value → World → Prop} (hr : Zhe P l o w w') (h : K undef w') : Step P l o w K := by
 intro a K' Q' ha hK
 unfold Oper.wp
 rw [hr a.eval ha]
 exact hK undef w' h
theorem Step.call {f : FuncId} {args : Array Value} {K R : Value → World → Prop} (hr : Zgz P l o w f args) (hc : Ctr P f args w R) (h : ∀ v w', R v w' → K v w') : Step P l o w K := by
 intro a K' Q' ha hK
 unfold Oper.wp
 rw [hr a.eval ha]
 refine Calls.mono hc fun e w' he => ?_
 obtain ⟨v, rfl, hv⟩ := he
 exact hK v w' (h v w' hv)
theorem Ye (hd : dOk N o.dst = true) (hg : Qv ops l o = some true) (h : Step P l o w fun v w' => WL P N ops Q rest (pu l o.dst v) w') : WL P N ops Q (o :: rest) l w := by
 intro a ha
 refine wpList_step fun K hK => ?_
 rw [if_pos (Xf ha hg)]
 exact h a K _ (fun x u hx => ha.eval hx) fun v w' hw => hK _ _ (hw _ (ha.pu hd v))
theorem Yl {S : World → Prop} {fuel : Nat} {listed : Array Bool} {i : Nat} (hi : ops[i]? = some o) (hd : dOk N o.dst = true) (hg : Qv ops l o = some true)
   (h : Step P l o w fun v w' => S w' ∧ DR P N ops Q S fuel (listed.setIfInBounds i true) (pu l o.dst v) w') : DO P N ops Q S fuel listed i l w := by
 intro a ha _
 unfold wpOp
 simp only [hi]
 rw [if_pos (Xf ha hg)]
 exact .inl (h a _ _ (fun x u hx => ha.eval hx) fun v w' hw => ⟨hw.1, hw.2 _ (ha.pu hd v) hw.1⟩)
def Tk (P : Program) (S : World → Prop) (l : KL) (o : Oper) (G : Value → Prop) : Prop := ∃ v, (∀ w, S w → Yg P l o w v w) ∧ G v
theorem Tk.of {S : World → Prop} {v : Value} {G : Value → Prop} (h : ∀ w, S w → Yg P l o w v w) (hG : G v) : Tk P S l o G := ⟨v, h, hG⟩
theorem DR_s {S : World → Prop} {fuel : Nat} {listed : Array Bool} (i : Nat) (hi : ops[i]? = some o) (hk : Zan ops listed i = true) (hd : dOk N o.dst = true) (hg : Qv ops l o = some true)
   (h : Tk P S l o fun v => DR P N ops Q S fuel (listed.setIfInBounds i true) (pu l o.dst v) w) : DR P N ops Q S (fuel + 1) listed l w :=
 let ⟨_, hr, h⟩ := h
 Zgg i hi hk hd hg hr h
end rules
end Go.KLib

namespace Go.KLib
structure Ch (ws : List Nat) (w w' : World) : Prop where
 os : w'.os = w.os
 tape : w'.tape = w.tape
 output : w'.output = w.output
 size : w.heap.size ≤ w'.heap.size
 block : ∀ k, k < w.heap.size → k ∉ ws → w'.heap[k]? = w.heap[k]?
theorem Ch.refl (ws : List Nat) (w : World) : Ch ws w w := ⟨rfl, rfl, rfl, Nat.le_refl _, fun _ _ _ => rfl⟩
theorem Ch.trans {ws : List Nat} {a b c : World} (h : Ch ws a b) (k : Ch ws b c) : Ch ws a c :=
 ⟨k.os.trans h.os, k.tape.trans h.tape, k.output.trans h.output, Nat.le_trans h.size k.size, fun i hi hn => (k.block i (Nat.lt_of_lt_of_le hi h.size) hn).trans (h.block i hi hn)⟩
theorem Ch.mono {ws ws' : List Nat} {a b : World} (h : Ch ws a b) (hs : ∀ k, k < a.heap.size → k ∈ ws → k ∈ ws') : Ch ws' a b :=
 ⟨h.os, h.tape, h.output, h.size, fun k hk hn => h.block k hk fun hm => hn (hs k hk hm)⟩
theorem Ch.of_nil {ws : List Nat} {a b : World} (h : Ch [] a b) : Ch ws a b := h.mono (fun _ _ hm => by cases hm)
theorem Ch.fresh {ws : List Nat} {a b : World} (h : Ch ws a b) (hf : ∀ k ∈ ws, a.heap.size ≤ k) : Ch [] a b :=
 h.mono fun k hk hm => absurd (hf k hm) (by omega)
theorem Ch.step {ws us : List Nat} {a b c : World} (h : Ch ws a b) (k : Ch us b c) (hf : ∀ i ∈ us, a.heap.size ≤ i ∨ i ∈ ws) : Ch ws a c :=
 ⟨k.os.trans h.os, k.tape.trans h.tape, k.output.trans h.output, Nat.le_trans h.size k.size, fun i hi hn =>
  (k.block i (Nat.lt_of_lt_of_le hi h.size) fun hm => by rcases hf i hm with h' | h'; omega; exact hn h').trans (h.block i hi hn)⟩
theorem Ch.drew {ws : List Nat} {a b : World} (h : Ch ws a b) : Ch ws a { b with drawn := b.drawn + 1 } := ⟨h.os, h.tape, h.output, h.size, h.block⟩
theorem Ch.below {a b : World} (h : Ch [] a b) : RowKit.Below a.heap.size a b := ⟨h.os, h.tape, h.output, h.size, fun k hk => h.block k hk (by simp)⟩
theorem Ch.of_below {a b : World} (h : RowKit.Below a.heap.size a b) : Ch [] a b := ⟨h.os, h.tape, h.output, h.size, fun k hk _ => h.block k hk⟩
theorem Ch.alloc (w : World) (o : Obj) : Ch [] w (w.alloc o) := ⟨rfl, rfl, rfl, by simp, fun k hk _ => RowKit.Below.heap_alloc w o k hk⟩
theorem Ch.setCell (w : World) (p : Addr) (v : Value) : Ch [p.block] w (w.setCell p v) :=
 ⟨rfl, rfl, rfl, by simp, fun k _ hn => RowKit.Below.heap_setCell w p v k (by simpa using hn)⟩
theorem Ch.cell {ws : List Nat} {w w' : World} (h : Ch ws w w') {p : Addr} {u : Value} (hc : w.cell? p = some u) (hn : p.block ∉ ws) : w'.cell? p = some u :=
 (World.cell?_of_block (h.block p.block (World.block_lt_of_cell? w p hc) hn)).trans hc
theorem Qf (a : Addr) (n : Nat) : (a.add n).block = a.block := by unfold Addr.add; split <;> rfl
theorem Zgv (a : Addr) (i j : Nat) : (a.add i).add j = a.add (i + j) := by
 unfold Addr.add
 by_cases hi : i = 0 <;> by_cases hj : j = 0 <;> simp [hi, hj, Nat.add_assoc]
theorem add_lit (b o n : Nat) : (⟨b, o, none⟩ : Addr).add n = ⟨b, o + n, none⟩ := by unfold Addr.add; split <;> simp_all
def At (w : World) (L B : Nat) (p : Addr) (cs : List Value) : Prop := (L ≤ p.block ∧ p.block < B) ∧ ∀ j u, cs[j]? = some u → w.cell? (p.add j) = some u
section
variable {w w' : World} {L L' B B' : Nat} {p : Addr} {cs : List Value} {ws : List Nat}
theorem At.ch (h : At w L B p cs) (c : Ch ws w w') (hw : ∀ k ∈ ws, k < L ∨ B ≤ k) : At w' L B p cs :=
 ⟨h.1, fun j u hu => c.cell (h.2 j u hu) (by rw [Qf]; intro hm; have := hw _ hm; have := h.1; omega)⟩
theorem At.ch0 (h : At w L B p cs) (c : Ch [] w w') : At w' L B p cs := h.ch c (by simp)
theorem At.up (h : At w L B p cs) (hL : L' ≤ L) (hB : B ≤ B') : At w L' B' p cs := ⟨⟨Nat.le_trans hL h.1.1, Nat.lt_of_lt_of_le h.1.2 hB⟩, h.2⟩
theorem At.cell (h : At w L B p cs) (j : Nat) {u : Value} (hu : cs[j]? = some u) : w.cell? (p.add j) = some u := h.2 j u hu
theorem At.sub (h : At w L B p cs) (o n : Nat) : At w L B (p.add o) ((cs.drop o).take n) := by
 refine ⟨by rw [Qf]; exact h.1, fun j u hu => ?_⟩
 rw [Zgv]
 refine h.2 (o + j) u ?_
 rw [List.getElem?_take] at hu
 split at hu
 ·rwa [List.getElem?_drop] at hu
 cases hu
theorem At.lt (h : At w L B p cs) : p.block < B := h.1.2
end
def Blk (w : World) (b : Nat) (t : TypeId) (cs : List Value) : Prop := w.heap[b]? = some (.cells cs.toArray t (0, 0))
section
variable {w w' : World} {b : Nat} {t : TypeId} {cs : List Value} {ws : List Nat}
theorem Blk.lt (h : Blk w b t cs) : b < w.heap.size := by
 rcases Nat.lt_or_ge b w.heap.size with hlt | hge
 ·exact hlt
 unfold Blk at h; rw [Array.getElem?_eq_none hge] at h; cases h
theorem Blk.ch (h : Blk w b t cs) (c : Ch ws w w') (hn : b ∉ ws) : Blk w' b t cs := (c.block b h.lt hn).trans h
theorem Blk.ch0 (h : Blk w b t cs) (c : Ch [] w w') : Blk w' b t cs := h.ch c (by simp)
theorem Blk.cell (h : Blk w b t cs) (i : Nat) : w.cell? ⟨b, i, none⟩ = cs[i]? := by
 unfold Blk at h
 simp [World.cell?, h]
theorem Blk.at_ (h : Blk w b t cs) : At w b (b + 1) ⟨b, 0, none⟩ cs :=
 ⟨⟨Nat.le_refl b, Nat.lt_succ_self b⟩, fun j u hu => by rw [add_lit, h.cell]; simpa using hu⟩
theorem Blk.frozen (h : Blk w b t cs) (i : Nat) : w.frozen? ⟨b, i, none⟩ = false := by
 unfold Blk at h
 simp [World.frozen?, h]
theorem Blk.new (w : World) (t : TypeId) (cs : List Value) : Blk (w.alloc (.cells cs.toArray t)) w.heap.size t cs := heap_alloc_new w _
theorem Blk.set (h : Blk w b t cs) (i : Nat) (u : Value) : Blk (w.setCell ⟨b, i, none⟩ u) b t (cs.set i u) := by
 unfold Blk at h ⊢
 simp [World.setCell, Array.getElem?_modify, h]
end
def Sl (w : World) (L B k : Nat) (v : Value) (n : Nat) (xs : List Value) : Prop :=
 xs.length = n * k ∧ ∃ A c, v = .slice A n c ∧ n ≤ c ∧ c ≤ maxLen ∧ (0 < n → ∃ ad, A = some ad ∧ At w L B ad xs)
section
variable {w w' : World} {L L' B B' k n : Nat} {v : Value} {xs : List Value} {ws : List Nat}
theorem Sl.ch (h : Sl w L B k v n xs) (c : Ch ws w w') (hw : ∀ i ∈ ws, i < L ∨ B ≤ i) : Sl w' L B k v n xs := by
 obtain ⟨hl, A, cp, hv, h1, h2, h3⟩ := h
 exact ⟨hl, A, cp, hv, h1, h2, fun hn => let ⟨ad, he, ha⟩ := h3 hn; ⟨ad, he, ha.ch c hw⟩⟩
theorem Sl.ch0 (h : Sl w L B k v n xs) (c : Ch [] w w') : Sl w' L B k v n xs := h.ch c (by simp)
theorem Sl.up (h : Sl w L B k v n xs) (hL : L' ≤ L) (hB : B ≤ B') : Sl w L' B' k v n xs := by
 obtain ⟨hl, A, cp, hv, h1, h2, h3⟩ := h
 exact ⟨hl, A, cp, hv, h1, h2, fun hn => let ⟨ad, he, ha⟩ := h3 hn; ⟨ad, he, ha.up hL hB⟩⟩
theorem Sl.nil (w : World) (L B k : Nat) : Sl w L B k (.slice none 0 0) 0 [] := ⟨by simp, none, 0, rfl, Nat.le_refl _, Nat.zero_le _, fun h => absurd h (by omega)⟩
theorem Sl.len_le (h : Sl w L B k v n xs) : n ≤ 9223372036854775807 := by
 obtain ⟨_, _, _, _, h1, h2, _⟩ := h
 simp only [maxLen] at h2
 omega
end
def Ow (w : World) (e : TypeId) (k : Nat) (v : Value) (n : Nat) (xs : List Value) : Prop :=
 xs.length = n * k ∧ ((v = .slice none 0 0 ∧ n = 0) ∨
  ∃ g off cap cur, v = .slice (some ⟨g, off, none⟩) n cap ∧ w.heap[g]? = some (.cells cur e (0, 0)) ∧ n ≤ cap ∧ cap ≤ maxLen ∧ off + cap * k ≤ cur.size ∧ (cur.toList.drop off).take (n * k) = xs)
def bl (v : Value) : List Nat := v.ownBlock.toList
def Lo (B : Nat) (v : Value) : Prop := ∀ g ∈ bl v, B ≤ g
section
variable {w w' : World} {L L' B B' k n : Nat} {e : TypeId} {v : Value} {xs : List Value} {ws : List Nat}
theorem Ow.nil (w : World) (e : TypeId) (k : Nat) : Ow w e k (.slice none 0 0) 0 [] := ⟨by simp, .inl ⟨rfl, rfl⟩⟩
theorem Lo.nil (B : Nat) : Lo B (.slice none 0 0) := by intro g hg; simp [bl, Value.ownBlock] at hg
theorem Lo.down (h : Lo B v) (hB : B' ≤ B) : Lo B' v := fun g hg => Nat.le_trans hB (h g hg)
theorem Ow.lt (h : Ow w e k v n xs) : ∀ g ∈ bl v, g < w.heap.size := by
 intro g hg
 rcases h.2 with ⟨rfl, _⟩ | ⟨g', off, cap, cur, rfl, hgg, _⟩
 ·simp [bl, Value.ownBlock] at hg
 simp [bl, Value.ownBlock] at hg
 subst hg
 exact (Array.getElem?_eq_some_iff.1 hgg).1
theorem Ow.ch (h : Ow w e k v n xs) (c : Ch ws w w') (hn : ∀ g ∈ bl v, g ∉ ws) : Ow w' e k v n xs := by
 refine ⟨h.1, ?_⟩
 rcases h.2 with h0 | ⟨g, off, cap, cur, rfl, hg, rest⟩
 ·exact .inl h0
 exact .inr ⟨g, off, cap, cur, rfl, by rw [c.block g (Array.getElem?_eq_some_iff.1 hg).1 (hn g (by simp [bl, Value.ownBlock]))]; exact hg, rest⟩
theorem Ow.ch0 (h : Ow w e k v n xs) (c : Ch [] w w') : Ow w' e k v n xs := h.ch c (by simp)
theorem Ow.cells (h : Ow w e k v n xs) {g off cap : Nat} (hv : v = .slice (some ⟨g, off, none⟩) n cap) : ∀ j u, xs[j]? = some u → w.cell? ⟨g, off + j, none⟩ = some u := by
 intro j u hu
 rcases h.2 with ⟨rfl, _⟩ | ⟨g', off', cap', cur, rfl, hg, _, _, _, ht⟩
 ·cases hv
 injection hv with h1 _ h3
 injection h1 with h1
 injection h1 with h1 h2
 subst h1 h2
 rw [← ht, List.getElem?_take] at hu
 split at hu
 ·rw [List.getElem?_drop] at hu
  simpa [World.cell?, hg] using hu
 cases hu
theorem Ow.sl (h : Ow w e k v n xs) : Sl w 0 w.heap.size k v n xs := by
 refine ⟨h.1, ?_⟩
 have hc := fun g off cap => h.cells (g := g) (off := off) (cap := cap)
 rcases h.2 with ⟨rfl, rfl⟩ | ⟨g, off, cap, cur, rfl, hg, h1, h2, h3, _⟩
 ·exact ⟨none, 0, rfl, Nat.le_refl _, Nat.zero_le _, fun h => absurd h (by omega)⟩
 exact ⟨_, cap, rfl, h1, h2, fun _ => ⟨_, rfl, ⟨Nat.zero_le _, (Array.getElem?_eq_some_iff.1 hg).1⟩, fun j u hu => by rw [add_lit]; exact hc g off cap rfl j u hu⟩⟩
theorem Ow.made (w : World) (e : TypeId) (k cap : Nat) (cur : Array Value) (n : Nat) (hn : n ≤ cap) (hm : cap ≤ maxLen) (hs : cur.size = cap * k) :
   Ow (w.alloc (.cells cur e)) e k (.slice (some ⟨w.heap.size, 0, none⟩) n cap) n (cur.toList.take (n * k)) := by
 refine ⟨?_, .inr ⟨w.heap.size, 0, cap, cur, rfl, heap_alloc_new w _, hn, hm, by omega, by simp⟩⟩
 rw [List.length_take, Array.length_toList, hs]
 exact Nat.min_eq_left (Nat.mul_le_mul_right _ hn)
theorem Ow.len_le (h : Ow w e k v n xs) : n ≤ 9223372036854775807 := h.sl.len_le
end
theorem Zah {P : Program} {N : Nat} {ops : Array Oper} {Q : Po} {id : Nat} {l : KL} {w : World} (ws : List Nat) (n : Nat) (hm : P.follows .mixedOrders = true) (hn : ops.size = n)
   (h : ∀ w1, Ch [] w w1 → DR P N ops Q (Ch ws w1) n (Array.replicate n false) l w1) : W P N (.region id ops true) Q l w := by
 subst hn
 exact Zhf (Ch ws { w with drawn := w.drawn + 1 }) hm (Ch.refl _ _) (h _ (Ch.refl [] w).drew)
theorem Sl.here {w : World} {L B k n : Nat} {v : Value} {xs : List Value} (h : Sl w L B k v n xs) (hk : 0 < k) : Sl w L w.heap.size k v n xs := by
 obtain ⟨hl, A, c, hv, h1, h2, h3⟩ := h
 refine ⟨hl, A, c, hv, h1, h2, fun hn => ?_⟩
 obtain ⟨ad, he, hb, ha⟩ := h3 hn
 refine ⟨ad, he, ⟨hb.1, ?_⟩, ha⟩
 have hx : 0 < xs.length := by rw [hl]; exact Nat.mul_pos hn hk
 have := World.block_lt_of_cell? w _ (ha 0 _ (List.getElem?_eq_getElem hx))
 rwa [Qf] at this
end Go.KLib

namespace Go.KLib
def Xs (P : Program) (t : TypeId) : Option Bool :=
 match P.underlying t with
 | some (.struct _) | some (.array _ _) => some true
 | some _ => some false
 | none => none
def Zs (P : Program) (t : TypeId) : Option Nat := (P.info? t).map (·.size)
def Zam (P : Program) (t : TypeId) : Option Nat := (P.info? t).map (·.bytes)
def Xl (P : Program) (t : TypeId) : Option Value := (P.info? t).bind (·.zero)
def elB (P : Program) (t : TypeId) : Option TypeId :=
 match P.underlying t with
 | some (.slice e) => some e
 | _ => none
def faB (P : Program) (s field : Nat) : Option Nat :=
 match P.underlying s with
 | some (.struct fs) => match fs[field]? with
  | some f => match Zs P f.type with
   | some (_ + 1) => some f.offset
   | _ => none
  | none => none
 | _ => none
section
variable {P : Program} {w : World}
theorem Zdh {t : TypeId} {b : Bool} (h : Xs P t = some b) : (isAgg t).run P w = .ok b w := by
 unfold Xs at h
 cases hu : P.underlying t with
 | none => simp [hu] at h
 | some d => cases d <;> simp [hu] at h <;> simp [isAgg, run_underlying hu, h]
theorem Yw {t : TypeId} {n : Nat} (h : Zs P t = some n) : (sizeOf t).run P w = .ok n w := by
 unfold Zs at h
 cases hi : P.info? t with
 | none => simp [hi] at h
 | some i => simp [hi] at h; simp [sizeOf, typeInfo, hi, h]
theorem Zbc {t : TypeId} {z : Value} (h : Xl P t = some z) : (zeroValue t).run P w = .ok z w := by
 unfold Xl at h
 cases hi : P.info? t with
 | none => simp [hi] at h
 | some i => simp [hi] at h; simp [zeroValue, typeInfo, hi, h]
theorem Xz {t e : TypeId} (h : elB P t = some e) : P.underlying t = some (.slice e) := by
 unfold elB at h
 cases hu : P.underlying t with
 | none => simp [hu] at h
 | some d => cases d <;> simp [hu] at h; rw [h]
theorem Zgp {t : TypeId} {s b : Nat} {z : Value} (hs : Zs P t = some s) (hb : Zam P t = some b) (hz : Xl P t = some z) : ∃ i, P.info? t = some i ∧ i.zero = some z ∧ i.size = s ∧ i.bytes = b := by
 unfold Zs at hs; unfold Zam at hb; unfold Xl at hz
 cases hi : P.info? t with
 | none => simp [hi] at hs
 | some i => simp [hi] at hs hb hz; exact ⟨i, rfl, hz, hs, hb⟩
variable {l : KL} {dst : Option Tmp} {ty : TypeId} {pos : String} {aft : Array Edge} {gd : Option (Nat × Bool)}
theorem Ze {x : Operand} {v : Value} (h : ev l x = some v) : Yg P l ⟨dst, .move x, ty, pos, aft, gd⟩ w v w := fun ρ hρ => by simp [execOp, hρ x v h]
theorem Zd {x : Operand} {v : Value} (h : ev l x = some v) : Yg P l ⟨dst, .assign x, ty, pos, aft, gd⟩ w v w := fun ρ hρ => by simp [execOp, hρ x v h]
theorem Yv {c x y : Operand} {u : Value} (hc : ev l c = some (.bool true)) (hx : ev l x = some u) : Yg P l ⟨dst, .pick c x y, ty, pos, aft, gd⟩ w u w := fun ρ hρ => by
 simp [execOp, hρ _ _ hc, hρ _ _ hx, asBool]
theorem Yp {c x y : Operand} {v : Value} (hc : ev l c = some (.bool false)) (hy : ev l y = some v) : Yg P l ⟨dst, .pick c x y, ty, pos, aft, gd⟩ w v w := fun ρ hρ => by
 simp [execOp, hρ _ _ hc, hρ _ _ hy, asBool]
theorem Qy {x : Operand} {t : TypeId} {b : Bool} (h : ev l x = some (.bool b)) : Yg P l ⟨dst, .unOp .not t x, ty, pos, aft, gd⟩ w (.bool (!b)) w := fun ρ hρ => by simp [execOp, hρ x _ h, Op.unary]
theorem Xp {x : Operand} {vs : Array Value} {i : Nat} {v : Value} (h : ev l x = some (.tuple vs)) (hi : vs[i]? = some v) : Yg P l ⟨dst, .extract x i, ty, pos, aft, gd⟩ w v w := fun ρ hρ => by
 simp [execOp, hρ x _ h, Instr.extract, hi]
theorem Zk {x : Operand} {s field off : Nat} {p : Addr} (hs : faB P s field = some off) (h : ev l x = some (.pointer (some p))) :
   Yg P l ⟨dst, .fieldAddr s x field, ty, pos, aft, gd⟩ w (.pointer (some (p.add off))) w := fun ρ hρ => by
 unfold faB at hs
 cases hu : P.underlying s with
 | none => simp [hu] at hs
 | some d =>
  cases d with
  | struct fs =>
   simp only [hu] at hs
   cases hf : fs[field]? with
   | none => simp [hf] at hs
   | some f =>
    simp only [hf] at hs
    cases hz : Zs P f.type with
    | none => simp [hz] at hs
    | some n =>
     cases n with
     | zero => simp [hz] at hs
     | succ n =>
      simp [hz] at hs
      simp [execOp, hρ x _ h, Instr.fieldAt, run_underlying hu, hf, Instr.sureAddr, fieldPlace, Yw hz, hs]
  | _ => simp [hu] at hs
theorem Zej {x : Operand} {t : TypeId} {p : Addr} {v : Value} (ht : Xs P t = some false) (h : ev l x = some (.pointer (some p))) (hc : w.cell? p = some v) :
   Yg P l ⟨dst, .load t x, ty, pos, aft, gd⟩ w v w := fun ρ hρ => by
 simp [execOp, hρ x _ h, Instr.loadAt, Instr.sureAddr, loadVar, Zdh ht, hc]
theorem Zeu {t : TypeId} {p : Addr} {cs : List Value} (ht : Xs P t = some true) (hz : Zs P t = some cs.length) (hc : ∀ j u, cs[j]? = some u → w.cell? (p.add j) = some u) :
   (loadVar t p).run P w = .ok (.agg cs.toArray) w := by
 simp [loadVar, Zdh ht, Yw hz, run_loadCells_list w p cs hc]
theorem Zgt {x : Operand} {t : TypeId} {p : Addr} {cs : List Value} (ht : Xs P t = some true) (hz : Zs P t = some cs.length) (h : ev l x = some (.pointer (some p)))
   (hc : ∀ j u, cs[j]? = some u → w.cell? (p.add j) = some u) : Yg P l ⟨dst, .load t x, ty, pos, aft, gd⟩ w (.agg cs.toArray) w := fun ρ hρ => by
 simp [execOp, hρ x _ h, Instr.loadAt, Instr.sureAddr, Zeu ht hz hc]
theorem Zt {x : Operand} {t : TypeId} {p : Addr} {L B off : Nat} {cs : List Value} {v : Value} (ha : At w L B p cs) (ht : Xs P t = some false) (h : ev l x = some (.pointer (some (p.add off)))) (hv : cs[off]? = some v) :
 Yg P l ⟨dst, .load t x, ty, pos, aft, gd⟩ w v w := Zej ht h (ha.cell off hv)
theorem Zy {x : Operand} {t : TypeId} {p : Addr} {L B : Nat} {cs : List Value} {v : Value} (ha : At w L B p cs) (ht : Xs P t = some false) (h : ev l x = some (.pointer (some p))) (hv : cs[0]? = some v) :
 Yg P l ⟨dst, .load t x, ty, pos, aft, gd⟩ w v w := Zej ht h (ha.cell 0 hv)
theorem Zaj {x : Operand} {t : TypeId} {p : Addr} {L B : Nat} {cs : List Value} (ha : At w L B p cs) (ht : Xs P t = some true) (hz : Zs P t = some cs.length) (h : ev l x = some (.pointer (some p))) :
 Yg P l ⟨dst, .load t x, ty, pos, aft, gd⟩ w (.agg cs.toArray) w := Zgt ht hz h ha.2
section
variable {x y : Operand} {xt yt : TypeId} {k : IntKind} {a b : Int}
theorem Xt (hx : ev l x = some (.int k a)) (hy : ev l y = some (.int k b)) : Yg P l ⟨dst, .binOp .lss xt x y yt, ty, pos, aft, gd⟩ w (.bool (decide (a < b))) w := fun ρ hρ => by
 simp [execOp, hρ _ _ hx, hρ _ _ hy, eqGuard, binOp, Op.intCmp]
theorem Zgd (hx : ev l x = some (.int k a)) (hy : ev l y = some (.int k b)) : Yg P l ⟨dst, .binOp .leq xt x y yt, ty, pos, aft, gd⟩ w (.bool (decide (a ≤ b))) w := fun ρ hρ => by
 simp [execOp, hρ _ _ hx, hρ _ _ hy, eqGuard, binOp, Op.intCmp]
theorem Zfc (hx : ev l x = some (.int k a)) (hy : ev l y = some (.int k b)) : Yg P l ⟨dst, .binOp .gtr xt x y yt, ty, pos, aft, gd⟩ w (.bool (decide (b < a))) w := fun ρ hρ => by
 simp [execOp, hρ _ _ hx, hρ _ _ hy, eqGuard, binOp, Op.intCmp]
theorem Zgc (hx : ev l x = some (.int k a)) (hy : ev l y = some (.int k b)) : Yg P l ⟨dst, .binOp .geq xt x y yt, ty, pos, aft, gd⟩ w (.bool (decide (b ≤ a))) w := fun ρ hρ => by
 simp [execOp, hρ _ _ hx, hρ _ _ hy, eqGuard, binOp, Op.intCmp]
theorem Zfz (hx : ev l x = some (.int k a)) (hy : ev l y = some (.int k b)) : Yg P l ⟨dst, .binOp .eql xt x y yt, ty, pos, aft, gd⟩ w (.bool (decide (a = b))) w := fun ρ hρ => by
 have e : (a == b) = decide (a = b) := by by_cases h : a = b <;> simp [h]
 simp [execOp, hρ _ _ hx, hρ _ _ hy, eqGuard, binOp, Op.intCmp, e]
theorem Zbj (hx : ev l x = some (.int k a)) (hy : ev l y = some (.int k b)) : Yg P l ⟨dst, .binOp .neq xt x y yt, ty, pos, aft, gd⟩ w (.bool (!decide (a = b))) w := fun ρ hρ => by
 have e : (a != b) = !decide (a = b) := by by_cases h : a = b <;> simp [h]
 simp [execOp, hρ _ _ hx, hρ _ _ hy, eqGuard, binOp, Op.intCmp, e]
theorem Zhn (hx : ev l x = some (.int k a)) (hy : ev l y = some (.int k b)) : Yg P l ⟨dst, .binOp .add xt x y yt, ty, pos, aft, gd⟩ w (.int k (k.wrap (a + b))) w := fun ρ hρ => by
 simp [execOp, hρ _ _ hx, hρ _ _ hy, eqGuard, binOp, Op.intArith]
theorem Zhm (hx : ev l x = some (.int k a)) (hy : ev l y = some (.int k b)) : Yg P l ⟨dst, .binOp .sub xt x y yt, ty, pos, aft, gd⟩ w (.int k (k.wrap (a - b))) w := fun ρ hρ => by
 simp [execOp, hρ _ _ hx, hρ _ _ hy, eqGuard, binOp, Op.intArith]
theorem Yx (h : -9223372036854775808 ≤ a + b ∧ a + b ≤ 9223372036854775807) (hx : ev l x = some (.int .i64 a)) (hy : ev l y = some (.int .i64 b)) : Yg P l ⟨dst, .binOp .add xt x y yt, ty, pos, aft, gd⟩ w (.int .i64 (a + b)) w := by
 have := Zhn (P := P) (w := w) (dst := dst) (xt := xt) (yt := yt) (ty := ty) (pos := pos) (aft := aft) (gd := gd) hx hy
 rwa [IntWalk.i64_in _ h] at this
theorem Xm (h : -9223372036854775808 ≤ a - b ∧ a - b ≤ 9223372036854775807) (hx : ev l x = some (.int .i64 a)) (hy : ev l y = some (.int .i64 b)) : Yg P l ⟨dst, .binOp .sub xt x y yt, ty, pos, aft, gd⟩ w (.int .i64 (a - b)) w := by
 have := Zhm (P := P) (w := w) (dst := dst) (xt := xt) (yt := yt) (ty := ty) (pos := pos) (aft := aft) (gd := gd) hx hy
 rwa [IntWalk.i64_in _ h] at this
theorem Zew {src d : TypeId} (hs : (P.underlying src).isSome = true) (hd : P.underlying d = some (.int k)) {k' : IntKind} (hx : ev l x = some (.int k' a)) :
   Yg P l ⟨dst, .convert src d x, ty, pos, aft, gd⟩ w (.int k (k.wrap a)) w := fun ρ hρ => by
 obtain ⟨d', hd'⟩ := Option.isSome_iff_exists.mp hs
 simp [execOp, hρ _ _ hx, convert, run_underlying hd', run_underlying hd, Conv.intToInt]
theorem Zq {src d : TypeId} (h : -9223372036854775808 ≤ a ∧ a ≤ 9223372036854775807) (hs : (P.underlying src).isSome = true) (hd : P.underlying d = some (.int .i64)) {k' : IntKind} (hx : ev l x = some (.int k' a)) :
   Yg P l ⟨dst, .convert src d x, ty, pos, aft, gd⟩ w (.int .i64 a) w := by
 have := Zew (P := P) (w := w) (dst := dst) (ty := ty) (pos := pos) (aft := aft) (gd := gd) hs hd hx
 rwa [IntWalk.i64_in _ h] at this
theorem Zbk {t : TypeId} {p q : Bool} (ht : P.underlying t = some .bool) : (Op.equal t (.bool p) (.bool q)).run P w = .ok (p == q) w := by
 have e : ∀ d, (Op.equalIn (d + 1) t (.bool p) (.bool q)).run P w = .ok (p == q) w := fun d => by
  simp [Op.equalIn, run_underlying ht]
 exact e 9999
theorem Zfs {p q : Bool} (ht : P.underlying xt = some .bool) (hx : ev l x = some (.bool p)) (hy : ev l y = some (.bool q)) : Yg P l ⟨dst, .binOp .neq xt x y yt, ty, pos, aft, gd⟩ w (.bool (!(p == q))) w := fun ρ hρ => by
 have e : binOp .neq xt (.bool p) (.bool q) = (do pure (.bool (!(← Op.equal xt (.bool p) (.bool q))))) := rfl
 simp [execOp, hρ _ _ hx, hρ _ _ hy, eqGuard, e, Zbk ht]
end
theorem Zav {x : Operand} {t : TypeId} {A : Option Addr} {n c : Nat} (ht : (elB P t).isSome = true) (h : ev l x = some (.slice A n c)) :
   Yg P l ⟨dst, .call { callee := .builtin .len, args := #[x], argTypes := #[t] }, ty, pos, aft, gd⟩ w (.int .i64 n) w := fun ρ hρ => by
 obtain ⟨e, he⟩ := Option.isSome_iff_exists.mp ht
 simp [execOp, resolve, invoke, builtin, Builtin.len_, run_underlying (Xz he), hρ _ _ h, goInt]
theorem Zdz {x ix : Operand} {t e : TypeId} {k n L B : Nat} {v : Value} {xs : List Value} {i : Int} {q : IntKind} (hs : Sl w L B k v n xs) (ht : elB P t = some e) (hk : Zs P e = some k)
   (hx : ev l x = some v) (hi : ev l ix = some (.int q i)) (h0 : 0 ≤ i) (h1 : i < n) :
   ∃ p, (∀ w', Yg P l ⟨dst, .indexAddr t x ix, ty, pos, aft, gd⟩ w' (.pointer (some p)) w') ∧ At w L B p ((xs.drop (i.toNat * k)).take k) := by
 obtain ⟨hl, A, c, rfl, hc, hm, hA⟩ := hs
 obtain ⟨ad, rfl, ha⟩ := hA (by omega)
 refine ⟨ad.add (i.toNat * k), fun w' ρ hρ => ?_, ha.sub _ _⟩
 simp [execOp, hρ _ _ hx, hρ _ _ hi, Instr.indexAt, asIntOf, run_underlying (Xz ht), Yw hk, h0, h1]
theorem Zfg {x ix : Operand} {t e : TypeId} {k n : Nat} {v : Value} {xs : List Value} {i : Int} {q : IntKind} {e' : TypeId} (hs : Ow w e' k v n xs) (ht : elB P t = some e) (hk : Zs P e = some k)
   (hx : ev l x = some v) (hi : ev l ix = some (.int q i)) (h0 : 0 ≤ i) (h1 : i < n) :
   ∃ g off cap, v = .slice (some ⟨g, off, none⟩) n cap ∧ ∀ w', Yg P l ⟨dst, .indexAddr t x ix, ty, pos, aft, gd⟩ w' (.pointer (some ⟨g, off + i.toNat * k, none⟩)) w' := by
 rcases hs.2 with ⟨rfl, rfl⟩ | ⟨g, off, cap, cur, rfl, _⟩
 ·omega
 refine ⟨g, off, cap, rfl, fun w' ρ hρ => ?_⟩
 simp [execOp, hρ _ _ hx, hρ _ _ hi, Instr.indexAt, asIntOf, run_underlying (Xz ht), Yw hk, h0, h1, add_lit]
theorem Zhv {x : Operand} {t : TypeId} {v : Value} (h : ev l x = some v) :
   ∃ b w', Yg P l ⟨dst, .box t x, ty, pos, aft, gd⟩ w (.pointer (some ⟨b, 0, none⟩)) w' ∧ Blk w' b t v.cells.toList ∧ Ch [] w w' ∧ b = w.heap.size := by
 refine ⟨w.heap.size, w.alloc (.cells v.cells.toList.toArray t), fun ρ hρ => ?_, Blk.new w t _, Ch.alloc w _, rfl⟩
 simp [execOp, hρ _ _ h, Instr.box, newVar, newRow]
theorem Zgo {t : TypeId} {z : Value} (hz : Xl P t = some z) :
   ∃ b w', Yg P l ⟨dst, .alloc t, ty, pos, aft, gd⟩ w (.pointer (some ⟨b, 0, none⟩)) w' ∧ Blk w' b t z.cells.toList ∧ Ch [] w w' ∧ b = w.heap.size := by
 refine ⟨w.heap.size, w.alloc (.cells z.cells.toList.toArray t), fun ρ _ => ?_, Blk.new w t _, Ch.alloc w _, rfl⟩
 simp [execOp, Instr.alloc, Zbc hz, newVar, newRow]
theorem Zas {w : World} {g : Nat} {cur cs : Array Value} {t : TypeId} (hg : w.heap[g]? = some (.cells cur t (0, 0))) : (w.setRow g cs).heap[g]? = some (.cells cs t (0, 0)) := setRow_heap w g cur cs t _ hg
theorem Ch.setRow (w : World) (g : Nat) (cs : Array Value) : Ch [g] w (w.setRow g cs) := ⟨rfl, rfl, rfl, by simp, fun k _ hn => setRow_other w g k _ (by simpa using hn)⟩
theorem Zfn {a x : Operand} {t t' : TypeId} {b off : Nat} {cs us : List Value} (hb : Blk w b t' cs) (ht : Zs P t = some us.length) (h1 : us.all Value.oneCell' = true)
   (ha : ev l a = some (.pointer (some (Addr.add ⟨b, 0, none⟩ off)))) (hx : ev l x = some (.agg us.toArray)) (ho : Nat.ble (off + us.length) cs.length = true) :
   ∃ w', Zhe P l ⟨dst, .store t a x, ty, pos, aft, gd⟩ w w' ∧ Blk w' b t' (cs.take off ++ us ++ cs.drop (off + us.length)) ∧ Ch [b] w w' := by
 have hle : off + us.length ≤ cs.length := Nat.le_of_ble_eq_true ho
 have hst := run_storeCells_at (P := P) b off t' us 0 cs.toArray w hb (by simpa using hle) (by simpa using h1)
 refine ⟨w.setRow b (cs.take off ++ us ++ cs.drop (off + us.length)).toArray, fun ρ hρ => ?_, Zas hb, Ch.setRow w b _⟩
 simp only [Nat.add_zero] at hst
 simp [execOp, hρ _ _ ha, hρ _ _ hx, Instr.storeAt, Instr.sureAddr, storeVar, Value.cells, Yw ht, add_lit, hst]
end
end Go.KLib

namespace Go.KLib
def evs (l : KL) : List Operand → Option (List Value)
 | [] => some []
 | x :: xs => match ev l x, evs l xs with
  | some v, some vs => some (v :: vs)
  | _, _ => none
theorem Zeq {l : KL} {ρ : Operand → Value} (hρ : ∀ x u, ev l x = some u → ρ x = u) : ∀ (xs : List Operand) (vs : List Value), evs l xs = some vs → xs.map ρ = vs
 | [], vs, h => by simp [evs] at h; simp [h]
 | x :: xs, vs, h => by
  simp only [evs] at h
  cases h1 : ev l x with
  | none => simp [h1] at h
  | some u =>
   cases h2 : evs l xs with
   | none => simp [h1, h2] at h
   | some us =>
    simp [h1, h2] at h
    rw [List.map_cons, hρ x u h1, Zeq hρ xs us h2, h]
def fnB (P : Program) (f : FuncId) : Bool :=
 match P.funcs[f]? with
 | some fn => !(fn.name == "runtime.NumGoroutine") && fn.body.isSome
 | none => false
section
variable {P : Program} {w : World} {l : KL} {dst : Option Tmp} {ty : TypeId} {pos : String} {aft : Array Edge} {gd : Option (Nat × Bool)}
theorem Zcn {f : FuncId} (h : fnB P f = true) (args : Array Value) : (callFunc f args).run P w = .ok (.enter f args) w := by
 unfold fnB at h
 cases hf : P.funcs[f]? with
 | none => simp [hf] at h
 | some fn =>
  simp only [hf, Bool.and_eq_true, Bool.not_eq_true'] at h
  have hb : fn.body ≠ none := by intro hn; rw [hn] at h; simp at h
  have hnm : fn.name ≠ "runtime.NumGoroutine" := by simpa using h.1
  simp [callFunc, hf, hnm, hb]
theorem Zv {f : FuncId} {xs : List Operand} {vs : List Value} {ts : Array TypeId} (hf : fnB P f = true) (hx : evs l xs = some vs) :
   Zgz P l ⟨dst, .call { callee := .value (.func f), args := xs.toArray, argTypes := ts }, ty, pos, aft, gd⟩ w f vs.toArray := fun ρ hρ => by
 have h1 : ρ (.func f) = .func (.func f) #[] #[] := hρ _ _ rfl
 have h2 := Zeq hρ xs vs hx
 simp [execOp, resolve, h1, h2, Deferred.ofValue, invoke, Zcn hf]
variable {K : Value → World → Prop}
theorem s_v {o : Oper} {v : Value} (hr : Yg P l o w v w) (h : K v w) : Step P l o w K := Step.of hr h
theorem Zdj {x : Operand} {t : TypeId} {v : Value} (h : ev l x = some v) (k : ∀ b w', Blk w' b t v.cells.toList → Ch [] w w' → b = w.heap.size → K (.pointer (some ⟨b, 0, none⟩)) w') :
   Step P l ⟨dst, .box t x, ty, pos, aft, gd⟩ w K := by
 obtain ⟨b, w', hr, h1, h2, h3⟩ := Zhv (P := P) (w := w) (dst := dst) (t := t) (ty := ty) (pos := pos) (aft := aft) (gd := gd) h
 exact Step.of hr (k b w' h1 h2 h3)
theorem Zeo {t : TypeId} {z : Value} (hz : Xl P t = some z) (k : ∀ b w', Blk w' b t z.cells.toList → Ch [] w w' → b = w.heap.size → K (.pointer (some ⟨b, 0, none⟩)) w') :
   Step P l ⟨dst, .alloc t, ty, pos, aft, gd⟩ w K := by
 obtain ⟨b, w', hr, h1, h2, h3⟩ := Zgo (P := P) (w := w) (l := l) (dst := dst) (ty := ty) (pos := pos) (aft := aft) (gd := gd) hz
 exact Step.of hr (k b w' h1 h2 h3)
theorem Zcy {a x : Operand} {t t' : TypeId} {b off : Nat} {cs us : List Value} (n : Nat) (hb : Blk w b t' cs) (ht : Zs P t = some n)
   (ha : ev l a = some (.pointer (some (Addr.add ⟨b, 0, none⟩ off)))) (hx : ev l x = some (.agg us.toArray)) (hn : us.length = n) (h1 : us.all Value.oneCell' = true) (ho : Nat.ble (off + us.length) cs.length = true)
   (k : ∀ w', Blk w' b t' (cs.take off ++ us ++ cs.drop (off + us.length)) → Ch [b] w w' → K undef w') : Step P l ⟨dst, .store t a x, ty, pos, aft, gd⟩ w K := by
 obtain ⟨w', hr, h2, h3⟩ := Zfn (P := P) (w := w) (dst := dst) (ty := ty) (pos := pos) (aft := aft) (gd := gd) hb (by rw [hn]; exact ht) h1 ha hx ho
 exact Step.ofU hr (k w' h2 h3)
theorem Zby {α : Type} {cs : α → List Value} {k : Nat} (hc : ∀ x, (cs x).length = k) : ∀ (xs : List α) (i : Nat) (x : α), xs[i]? = some x → ((xs.flatMap cs).drop (i * k)).take k = cs x
 | [], i, x, h => by simp at h
 | y :: ys, 0, x, h => by
  simp at h
  subst h
  simp only [List.flatMap_cons, Nat.zero_mul, List.drop_zero]
  rw [← hc y, List.take_left]
 | y :: ys, i + 1, x, h => by
  have ih := Zby hc ys i x (by simpa using h)
  simp only [List.flatMap_cons]
  rw [Nat.succ_mul, Nat.add_comm (i * k) k, ← List.drop_drop]
  conv => lhs; rw [← hc y]
  rw [List.drop_left, hc y]
  exact ih
theorem flat_len {α : Type} {cs : α → List Value} {k : Nat} (hc : ∀ x, (cs x).length = k) (xs : List α) : (xs.flatMap cs).length = xs.length * k := by
 induction xs with
 | nil => simp
 | cons x xs ih => simp [hc, ih, Nat.succ_mul, Nat.add_comm]
def Ls {α : Type} (cs : α → List Value) (k : Nat) (w : World) (L B : Nat) (v : Value) (xs : List α) : Prop := Sl w L B k v xs.length (xs.flatMap cs)
def Ol {α : Type} (cs : α → List Value) (e k : Nat) (w : World) (v : Value) (xs : List α) : Prop := Ow w e k v xs.length (xs.flatMap cs)
section
variable {α : Type} {cs : α → List Value} {e k L L' B B' : Nat} {v : Value} {xs : List α} {w' : World} {ws : List Nat}
theorem Ls.ch (h : Ls cs k w L B v xs) (c : Ch ws w w') (hw : ∀ i ∈ ws, i < L ∨ B ≤ i) : Ls cs k w' L B v xs := Sl.ch h c hw
theorem Ls.ch0 (h : Ls cs k w L B v xs) (c : Ch [] w w') : Ls cs k w' L B v xs := Sl.ch0 h c
theorem Ls.up (h : Ls cs k w L B v xs) (hL : L' ≤ L) (hB : B ≤ B') : Ls cs k w L' B' v xs := Sl.up h hL hB
theorem Ls.here (h : Ls cs k w L B v xs) (hk : 0 < k) : Ls cs k w L w.heap.size v xs := Sl.here h hk
theorem Ls.eq {ys : List α} (h : Ls cs k w L B v xs) (he : xs = ys) : Ls cs k w L B v ys := by subst he; exact h
theorem Ol.eq {ys : List α} (h : Ol cs e k w v xs) (he : xs = ys) : Ol cs e k w v ys := by subst he; exact h
theorem Ls.nil (w : World) (L B : Nat) : Ls cs k w L B (.slice none 0 0) ([] : List α) := Sl.nil w L B k
theorem Ls.len (h : Ls cs k w L B v xs) : xs.length ≤ 9223372036854775807 := Sl.len_le h
theorem Ls.val (h : Ls cs k w L B v xs) : ∃ A c, v = .slice A xs.length c := by obtain ⟨_, A, c, hv, _⟩ := h; exact ⟨A, c, hv⟩
theorem Ol.ch (h : Ol cs e k w v xs) (c : Ch ws w w') (hn : ∀ g ∈ bl v, g ∉ ws) : Ol cs e k w' v xs := Ow.ch h c hn
theorem Ol.ch0 (h : Ol cs e k w v xs) (c : Ch [] w w') : Ol cs e k w' v xs := Ow.ch0 h c
theorem Ol.ls (h : Ol cs e k w v xs) : Ls cs k w 0 w.heap.size v xs := Ow.sl h
theorem Ol.lt (h : Ol cs e k w v xs) : ∀ g ∈ bl v, g < w.heap.size := Ow.lt h
theorem Ol.nil (w : World) : Ol cs e k w (.slice none 0 0) ([] : List α) := Ow.nil w e k
theorem Ol.len (h : Ol cs e k w v xs) : xs.length ≤ 9223372036854775807 := Ow.len_le h
theorem Ol.val (h : Ol cs e k w v xs) : ∃ A c, v = .slice A xs.length c := h.ls.val
theorem Yz {x ix : Operand} {t : TypeId} {j : Nat} {i : Int} {q : IntKind} (hs : Ls cs k w L B v xs) (hc : ∀ x, (cs x).length = k) (ht : elB P t = some e) (hk : Zs P e = some k)
   (hx : ev l x = some v) (hi : ev l ix = some (.int q i)) (hj : i = (j : Int)) (h1 : j < xs.length)
   (kk : ∀ p y, xs[j]? = some y → At w L B p (cs y) → K (.pointer (some p)) w) : Step P l ⟨dst, .indexAddr t x ix, ty, pos, aft, gd⟩ w K := by
 subst hj
 obtain ⟨p, hr, ha⟩ := Zdz (P := P) (dst := dst) (ty := ty) (pos := pos) (aft := aft) (gd := gd) hs ht hk hx hi (by omega) (by omega)
 have hy : xs[j]? = some xs[j] := List.getElem?_eq_getElem h1
 rw [Int.toNat_natCast, Zby hc xs j _ hy] at ha
 exact Step.of (hr w) (kk p _ hy ha)
theorem Qr {S : World → Prop} {G : Value → Prop} {w0 : World} {x ix : Operand} {t : TypeId} {j : Nat} {i : Int} {q : IntKind} (hs : Ls cs k w0 L B v xs) (hc : ∀ x, (cs x).length = k) (ht : elB P t = some e) (hk : Zs P e = some k)
   (hx : ev l x = some v) (hi : ev l ix = some (.int q i)) (hj : i = (j : Int)) (h1 : j < xs.length)
   (kk : ∀ p y, xs[j]? = some y → At w0 L B p (cs y) → G (.pointer (some p))) : Tk P S l ⟨dst, .indexAddr t x ix, ty, pos, aft, gd⟩ G := by
 subst hj
 obtain ⟨p, hr, ha⟩ := Zdz (P := P) (dst := dst) (ty := ty) (pos := pos) (aft := aft) (gd := gd) hs ht hk hx hi (by omega) (by omega)
 have hy : xs[j]? = some xs[j] := List.getElem?_eq_getElem h1
 rw [Int.toNat_natCast, Zby hc xs j _ hy] at ha
 exact Tk.of (fun w' _ => hr w') (kk p _ hy ha)
end
theorem t_v {S : World → Prop} {G : Value → Prop} {o : Oper} {v : Value} (h : ∀ w, Yg P l o w v w) (hG : G v) : Tk P S l o G := Tk.of (fun w _ => h w) hG
theorem Qh {ws : List Nat} {w0 : World} {G : Value → Prop} {x : Operand} {t : TypeId} {p : Addr} {L B off : Nat} {cs : List Value} {v : Value} (ha : At w0 L B p cs) (hw : ∀ k ∈ ws, k < L ∨ B ≤ k) (ht : Xs P t = some false)
   (h : ev l x = some (.pointer (some (p.add off)))) (hv : cs[off]? = some v) (hG : G v) : Tk P (Ch ws w0) l ⟨dst, .load t x, ty, pos, aft, gd⟩ G :=
 Tk.of (fun _ c => Zt (ha.ch c hw) ht h hv) hG
theorem Xg {ws : List Nat} {w0 : World} {G : Value → Prop} {x : Operand} {t : TypeId} {p : Addr} {L B : Nat} {cs : List Value} (ha : At w0 L B p cs) (hw : ∀ k ∈ ws, k < L ∨ B ≤ k) (ht : Xs P t = some true) (hz : Zs P t = some cs.length)
   (h : ev l x = some (.pointer (some p))) (hG : G (.agg cs.toArray)) : Tk P (Ch ws w0) l ⟨dst, .load t x, ty, pos, aft, gd⟩ G :=
 Tk.of (fun _ c => Zaj (ha.ch c hw) ht hz h) hG
end
end Go.KLib

namespace Go.KLib
structure Pair where
 f : Int
 t : Int
 deriving DecidableEq
def Pair.cs (p : Pair) : List Value := [.int .i64 p.f, .int .i64 p.t]
theorem Pair.len (p : Pair) : p.cs.length = 2 := rfl
structure Token where
 kind : Int
 letter : Int
 low : Int
 high : Int
 deriving DecidableEq
def Token.cs (p : Token) : List Value := [.int .i64 p.kind, .int .i64 p.letter, .int .i64 p.low, .int .i64 p.high]
theorem Token.len (p : Token) : p.cs.length = 4 := rfl
structure GEdge where
 id : Int
 f : Int
 t : Int
 label : Int
 deriving DecidableEq
def GEdge.cs (p : GEdge) : List Value := [.int .i64 p.id, .int .i64 p.f, .int .i64 p.t, .int .i64 p.label]
theorem GEdge.len (p : GEdge) : p.cs.length = 4 := rfl
def ics (n : Int) : List Value := [.int .i64 n]
def bcs (b : Bool) : List Value := [.bool b]
theorem Pair.inj {a b : Pair} (h : [a.f, a.t] = [b.f, b.t]) : a = b := by cases a; cases b; simpa using h
theorem Token.inj {a b : Token} (h : [a.kind, a.letter, a.low, a.high] = [b.kind, b.letter, b.low, b.high]) : a = b := by cases a; cases b; simpa using h
theorem GEdge.inj {a b : GEdge} (h : [a.id, a.f, a.t, a.label] = [b.id, b.f, b.t, b.label]) : a = b := by cases a; cases b; simpa using h
section
variable {α : Type} {cs : α → List Value} {e k n : Nat} {v : Value} {xs : List α} {w w' : World} {P : Program} {l : KL} {dst : Option Tmp} {ty : TypeId} {pos : String} {aft : Array Edge} {gd : Option (Nat × Bool)} {K : Value → World → Prop}
theorem Zbv {cs : α → List Value} (hc : ∀ x, (cs x).length = k) : ∀ (xs : List α) (j : Nat) (y : α), j < xs.length → (xs.flatMap cs).take (j * k) ++ cs y ++ (xs.flatMap cs).drop (j * k + k) = (xs.set j y).flatMap cs
 | [], j, y, h => by simp at h
 | x :: xs, 0, y, _ => by
  simp only [List.flatMap_cons, Nat.zero_mul, List.take_zero, List.nil_append, Nat.zero_add, List.set_cons_zero]
  rw [← hc x, List.drop_left]
 | x :: xs, j + 1, y, h => by
  have ih := Zbv hc xs j y (by simpa using h)
  simp only [List.flatMap_cons, List.set_cons_succ]
  rw [← ih, show (j + 1) * k = (cs x).length + j * k from by rw [hc x, Nat.succ_mul, Nat.add_comm], Nat.add_assoc, List.take_length_add_append, List.drop_length_add_append]
  simp [List.append_assoc]
theorem Zfa {z : Value} {z0 : α} (hz : z.cells.toList = cs z0) (hc : ∀ x, (cs x).length = k) (hk : 0 < k) (n : Nat) : (madeCells z.cells (n * k)).toList = (List.replicate n z0).flatMap cs := by
 have hs : z.cells.size = k := by rw [← Array.length_toList, hz, hc]
 induction n with
 | zero => simp [madeCells]
 | succ n ih =>
  rw [List.replicate_succ', List.flatMap_append, ← ih, Nat.succ_mul]
  unfold madeCells
  rw [Array.toList_map, Array.toList_range, List.range_add, List.map_append, Array.toList_map, Array.toList_range]
  congr 1
  simp only [List.flatMap_cons, List.flatMap_nil, List.append_nil, List.map_map]
  rw [← hz]
  apply List.ext_getElem?
  intro i
  by_cases hi : i < k
  ·have hi' : i < z.cells.size := by omega
   simp [hs, Nat.mul_add_mod_of_lt, Nat.add_mod, Nat.mod_eq_of_lt hi, hi, hi']
  simp [hs, hi]
theorem Zdd {x ix : Operand} {t e' : TypeId} {j : Nat} {i : Int} {q : IntKind} (hs : Ol cs e' k w v xs) (ht : elB P t = some e) (hk : Zs P e = some k)
   (hx : ev l x = some v) (hi : ev l ix = some (.int q i)) (hj : i = (j : Int)) (h1 : j < xs.length)
   (kk : ∀ g off cap, v = .slice (some ⟨g, off, none⟩) xs.length cap → K (.pointer (some ⟨g, off + j * k, none⟩)) w) : Step P l ⟨dst, .indexAddr t x ix, ty, pos, aft, gd⟩ w K := by
 subst hj
 obtain ⟨g, off, cap, hv, hr⟩ := Zfg (P := P) (dst := dst) (ty := ty) (pos := pos) (aft := aft) (gd := gd) hs ht hk hx hi (by omega) (by omega)
 exact Step.of (hr w) (kk g off cap hv)
theorem Zfe {v : Value} {n : Nat} {ys : List Value} {a x : Operand} {t : TypeId} {g off cap i : Nat} {u : Value} (hs : Ow w e k v n ys) (hv : v = .slice (some ⟨g, off, none⟩) n cap) (ht : Zs P t = some 1)
   (ha : ev l a = some (.pointer (some ⟨g, off + i, none⟩))) (hx : ev l x = some u) (h1 : u.oneCell' = true) (hi : i < n * k)
   (kk : ∀ w', Ow w' e k v n (ys.set i u) → Ch (bl v) w w' → K undef w') : Step P l ⟨dst, .store t a x, ty, pos, aft, gd⟩ w K := by
 rcases hs.2 with ⟨rfl, _⟩ | ⟨g', off', cap', cur, rfl, hg, hn, hm, hc, htk⟩
 ·cases hv
 injection hv with h1' _ h3
 injection h1' with h1'
 injection h1' with h1' h2'
 subst h1' h2' h3
 have hnk : n * k ≤ cap' * k := Nat.mul_le_mul_right _ hn
 have hlt : off' + i < cur.size := by omega
 have hcell : w.cell? ⟨g', off' + i, none⟩ = some cur[off' + i] := by simp [World.cell?, hg, hlt]
 have hfr : w.frozen? ⟨g', off' + i, none⟩ = false := by simp [World.frozen?, hg]
 have hst : (store (Addr.add ⟨g', off' + i, none⟩ 0) u).run P w = .ok () (w.setCell ⟨g', off' + i, none⟩ u) := by
  rw [add_lit, run_store P w _ u _ h1]
  simp only [Nat.add_zero]
  rw [hcell, hfr]
  rfl
 have hvc : u.cells = #[u] := by cases u <;> simp_all [Value.oneCell', Value.cells]
 refine Step.ofU (w' := w.setCell ⟨g', off' + i, none⟩ u) (fun ρ hρ => ?_) (kk _ ⟨by rw [List.length_set]; exact hs.1, .inr ⟨g', off', cap', cur.setIfInBounds (off' + i) u, rfl, ?_, hn, hm, by simpa using hc, ?_⟩⟩ (Ch.setCell w ⟨g', off' + i, none⟩ u))
 ·simp [execOp, hρ _ _ ha, hρ _ _ hx, Instr.storeAt, Instr.sureAddr, storeVar, hvc, Yw ht, storeCells, hst]
 ·simp [World.setCell, Array.getElem?_modify, hg]
 rw [Array.toList_setIfInBounds, ← htk]
 apply List.ext_getElem?
 intro q
 simp only [List.getElem?_take, List.getElem?_drop, List.getElem?_set, List.length_take, List.length_drop, Array.length_toList]
 by_cases hq : q < n * k
 ·rw [if_pos hq]
  by_cases he : i = q
  ·subst he
   rw [if_pos rfl, if_pos (by omega), if_pos rfl, if_pos (by omega)]
  rw [if_neg (by omega), if_neg he, if_pos hq]
 rw [if_neg hq, if_neg (by omega), if_neg hq]
theorem Zfd {xs : List α} {j : Nat} {y : α} (hy : xs[j]? = some y) : xs.set j y = xs := by
 apply List.ext_getElem?
 intro q
 rw [List.getElem?_set]
 by_cases h : j = q
 ·subst h
  rw [if_pos rfl, if_pos (List.getElem?_eq_some_iff.1 hy).1, hy]
 rw [if_neg h]
theorem Zev {cs : α → List Value} (hc : ∀ x, (cs x).length = k) {xs : List α} {j fo : Nat} {y y' : α} {u : Value} (hy : xs[j]? = some y) (hy' : cs y' = (cs y).set fo u) (hf : fo < k) : (xs.flatMap cs).set (j * k + fo) u = (xs.set j y').flatMap cs := by
 have hj : j < xs.length := (List.getElem?_eq_some_iff.1 hy).1
 have hl := flat_len hc xs
 have hjk : j * k + k ≤ xs.length * k := by rw [← Nat.succ_mul]; exact Nat.mul_le_mul_right _ hj
 have h1 : xs.flatMap cs = (xs.flatMap cs).take (j * k) ++ cs y ++ (xs.flatMap cs).drop (j * k + k) := by
  have := Zbv hc xs j y hj
  rw [this]
  congr 1
  exact (Zfd hy).symm
 rw [← Zbv hc xs j y' hj, hy']
 conv => lhs; rw [h1]
 have e1 : ((xs.flatMap cs).take (j * k)).length = j * k := by rw [List.length_take, hl]; omega
 rw [List.append_assoc, List.set_append_right _ _ (by omega), e1, Nat.add_sub_cancel_left, List.set_append_left _ _ (by rw [hc]; exact hf), List.append_assoc]
theorem Zcz {a x : Operand} {t : TypeId} {g off cap j : Nat} {u : Value} (fo : Nat) (y y' : α) (hs : Ol cs e k w v xs) (hv : v = .slice (some ⟨g, off, none⟩) xs.length cap) (hy : xs[j]? = some y) (hc : ∀ x, (cs x).length = k) (hy' : cs y' = (cs y).set fo u) (ht : Zs P t = some 1)
   (ha : ev l a = some (.pointer (some (Addr.add ⟨g, off + j * k, none⟩ fo)))) (hx : ev l x = some u) (h1 : u.oneCell' = true) (hf : Nat.blt fo k = true)
   (kk : ∀ w', Ol cs e k w' v (xs.set j y') → Ch (bl v) w w' → K undef w') : Step P l ⟨dst, .store t a x, ty, pos, aft, gd⟩ w K := by
 have hfo : fo < k := by simpa [Nat.blt_eq] using hf
 have hj : j < xs.length := (List.getElem?_eq_some_iff.1 hy).1
 have hjk : j * k + k ≤ xs.length * k := by rw [← Nat.succ_mul]; exact Nat.mul_le_mul_right _ hj
 refine Zfe (i := j * k + fo) hs hv ht (by rw [ha, add_lit, Nat.add_assoc]) hx h1 (by omega) fun w' ho hch => kk w' ?_ hch
 rw [Zev hc hy hy' hfo] at ho
 exact ⟨by simpa using ho.1, by simpa using ho.2⟩
theorem Zff {xs : List α} {j : Nat} (h : j < xs.length) : ∃ y, xs[j]? = some y := ⟨_, List.getElem?_eq_getElem h⟩
theorem Zgn {xs : List α} {j : Nat} {y : α} (h : xs[j]? = some y) (y' : α) : (xs.set j y')[j]? = some y' := by
 rw [List.getElem?_set_self (List.getElem?_eq_some_iff.1 h).1]
end
theorem Zcl {α : Type} {xs ys : List α} {k : Nat} (h : xs.take k = ys.take k) {x y : α} (hx : xs[k]? = some x) (hy : ys[k]? = some y) (he : x = y) : xs.take (k + 1) = ys.take (k + 1) := by
 rw [List.take_add_one, List.take_add_one, hx, hy, h, he]
theorem Zdm {α : Type} {xs ys : List α} {k : Nat} (h : xs.take k = ys.take k) (h1 : xs.length ≤ k) (h2 : ys.length = xs.length) : xs = ys := by
 rwa [List.take_of_length_le h1, List.take_of_length_le (by omega)] at h
theorem Zey {α : Type} {xs ys : List α} {k : Nat} {x y : α} (hx : xs[k]? = some x) (hy : ys[k]? = some y) (he : ¬ x = y) : ¬ xs = ys := by
 rintro rfl
 rw [hx] at hy
 injection hy with hy
 exact he hy
theorem Zai {α : Type} (a : List α) (f : Nat → α) {k : Nat} (hk : k < a.length) : ((List.range k).map f ++ a.drop k).set k (f k) = (List.range (k + 1)).map f ++ a.drop (k + 1) := by
 rw [List.range_succ, List.map_append, List.set_append_right _ _ (by simp)]
 rw [List.drop_eq_getElem_cons hk]
 simp only [List.length_map, List.length_range, Nat.sub_self, List.set_cons_zero, List.map_cons, List.map_nil, List.append_assoc, List.singleton_append]
def Yc (k : Int) (n : Nat) : List Pair := (List.range n).map fun (i : Nat) => ⟨k + 2 * i, k + 2 * i + 1⟩
def Zei (k : Int) (n : Nat) : List Token := (List.range n).map fun (i : Nat) => ⟨k + 4 * i, k + 4 * i + 1, k + 4 * i + 2, k + 4 * i + 3⟩
def Zeh (k : Int) (n : Nat) : List GEdge := (List.range n).map fun (i : Nat) => ⟨k + 4 * i, k + 4 * i + 1, k + 4 * i + 2, k + 4 * i + 3⟩
def Zhc (k : Int) (n : Nat) : List Int := (List.range n).map fun (i : Nat) => k + i
@[simp] theorem mkPair_len (k : Int) (n : Nat) : (Yc k n).length = n := by simp [Yc]
@[simp] theorem mkToken_len (k : Int) (n : Nat) : (Zei k n).length = n := by simp [Zei]
@[simp] theorem mkGEdge_len (k : Int) (n : Nat) : (Zeh k n).length = n := by simp [Zeh]
@[simp] theorem mkInt_len (k : Int) (n : Nat) : (Zhc k n).length = n := by simp [Zhc]
theorem Zcv (a : List Pair) {i : Nat} (hi : i < a.length) {kk k : Int} (h : kk = k + 2 * i) : (Yc k i ++ a.drop i).set i ⟨kk, kk + 1⟩ = Yc k (i + 1) ++ a.drop (i + 1) := by
 subst h
 have h2 := Zai a (fun (q : Nat) => (⟨k + 2 * q, k + 2 * q + 1⟩ : Pair)) hi
 unfold Yc
 refine Eq.trans (congrArg _ ?_) h2
 simp only [Int.add_assoc]
 all_goals rfl
theorem Zap {a : List Pair} {k : Int} {i : Nat} {y : Pair} (e : a = Yc k a.length) (hy : a[i]? = some y) : y.f = k + 2 * i ∧ y.t = k + 2 * i + 1 := by
 have hlt := (List.getElem?_eq_some_iff.1 hy).1
 rw [e] at hy
 simp only [Yc, List.getElem?_map, List.getElem?_range hlt, Option.map_some] at hy
 injection hy with hy
 subst hy
 exact ⟨rfl, rfl⟩
theorem Zcc {a : List Pair} {k kk : Int} {i : Nat} {y0 y1 : Pair} (h : a.take i = Yc k i) (hk : kk = k + 2 * i) (h0 : a[i]? = some y0) (e0 : y0.f = kk) (h1 : a[i]? = some y1) (e1 : y1.t = kk + 1) : a.take (i + 1) = Yc k (i + 1) := by
 rw [h0] at h1; injection h1 with h1; subst h1
 rw [List.take_add_one, h, h0]
 simp only [Yc, List.range_succ, List.map_append, List.map_cons, List.map_nil, Option.toList]
 congr 1
 obtain ⟨a0, a1⟩ := y0
 simp only at e0 e1
 subst e0 e1
 subst hk
 simp only [Int.add_assoc]
 all_goals rfl
theorem Zco {a : List Pair} {k : Int} {i : Nat} (h : a.take i = Yc k i) (h1 : i ≤ a.length) (h2 : a.length ≤ i) : a = Yc k a.length := by
 have : i = a.length := by omega
 subst this
 rwa [List.take_length] at h
end Go.KLib

namespace Go.KLib
open Go.ChangeShapes Go.WideShapes Go.ChangeAt Go.RowKit Go.Deep Go.Joins
section
variable {H : Type} {enc : TypeId × Value → H} {P : Program} {w : World} {base : Nat} {spare : Nat → Bool} {held : Bool}
theorem Zaq {W W' : World} (hl : laidOutB P = true) (hb : Ch [] W W') : ∀ (ts : List TypeId) (vs : List Value) (ds : List (DataW H)) (ps : List MemPlace), (∀ t ∈ ts, P.readableRec t = true ∧ t < P.types.size) →
   (∀ x ∈ ps, x.block < W.heap.size) → DataW.TrodAll enc P W 0 (fun _ => true) true ts vs ds ps → DataW.TrodAll enc P W' 0 (fun b => decide (b < W.heap.size)) true ts vs ds ps
 | [], [], [], ps, _, _, h => h
 | t :: ts, v :: vs, d :: ds, ps, hts, hps, h => by
  obtain ⟨p, q, h1, h2, rfl⟩ := h
  exact ⟨p, q, Below.trod hl (hts t (by simp)).1 (hts t (by simp)).2 h1 hb.below (fun x hx => hps x (by simp [hx])),
   Zaq hl hb ts vs ds q (fun t' ht' => hts t' (by simp [ht'])) (fun x hx => hps x (by simp [hx])) h2, rfl⟩
 | [], v :: vs, _, _, _, _, h => by simp [DataW.TrodAll] at h
 | [], [], d :: ds, _, _, _, h => by simp [DataW.TrodAll] at h
 | t :: ts, [], _, _, _, _, h => by simp [DataW.TrodAll] at h
 | t :: ts, v :: vs, [], _, _, _, h => by simp [DataW.TrodAll] at h
theorem Zfj {fn : Func} {s : ChangeSpec} {W W' : World} {args : Array Value} {ds : List (DataW H)} {ps : List MemPlace} {tb : TypeId} (hl : laidOutB P = true) (hts : fn.params.toList.all (fun t => P.readableRec t && decide (t < P.types.size)) = true)
   (hr : fn.resultTypes = #[tb]) (htb : P.underlying tb = some .bool) (hvars : s.vars = []) (hfn : s.fn H (ds ++ []) = { results := [.lit (.bool true)], args := ds })
   (hW : DataW.Whole enc P fn.params.toList s.vars false W args.toList ds [] ps) (hb : Ch [] W W') :
   s.post enc P fn false true false false W args (.bool true) W' := by
 have hW0 := hW
 obtain ⟨p, q, hA, hV, rfl, _, _⟩ := hW
 rw [hvars] at hV
 have hq : q = [] := hV
 subst hq
 have hlt : ∀ x ∈ p, x.block < W.heap.size := fun x hx => hW0.lt x (by simpa using hx)
 refine ⟨ds, [], _, [], p, [], hW0, ?_, ?_, ?_, hb.below.frame _, fun h => by cases h⟩
 ·rw [hfn, hr]
  exact trodAll_mk1 (shut_bool htb true)
 ·rw [hfn]
  refine Zaq hl hb _ _ _ _ (fun t ht => ?_) hlt hA
  have := List.all_eq_true.1 hts t ht
  simpa using this
 rw [hfn, hvars]
 exact rfl
end
end Go.KLib

namespace Go.KLib
def evp (l : KL) : List (Nat × Operand) → Option (List (Nat × Value))
 | [] => some []
 | p :: ps => match ev l p.2, evp l ps with
  | some v, some vs => some ((p.1, v) :: vs)
  | _, _ => none
theorem Zct {l : KL} {ρ : Operand → Value} (hρ : ∀ x u, ev l x = some u → ρ x = u) : ∀ (ps : List (Nat × Operand)) (vs : List (Nat × Value)), evp l ps = some vs → ps.map (fun p => (p.1, ρ p.2)) = vs
 | [], vs, h => by simp [evp] at h; simp [h]
 | p :: ps, vs, h => by
  simp only [evp] at h
  cases h1 : ev l p.2 with
  | none => simp [h1] at h
  | some u =>
   cases h2 : evp l ps with
   | none => simp [h1, h2] at h
   | some us =>
    simp [h1, h2] at h
    rw [List.map_cons, hρ p.2 u h1, Zct hρ ps us h2, h]
def Zdl (place : Nat → Option (Nat × Nat)) (cells : List Value) : List (Nat × Value) → Option (List Value)
 | [] => some cells
 | p :: rest => match place p.1 with
  | none => none
  | some q => bif Nat.beq p.2.cells.size q.2 && Nat.ble (q.1 + q.2) cells.length then Zdl place (cells.take q.1 ++ p.2.cells.toList ++ cells.drop (q.1 + q.2)) rest else none
theorem Zes (vs : List Value) : ∀ (o i : Nat) (cells : List Value), o + i + vs.length ≤ cells.length →
   ((vs.zipIdx i).foldl (fun (cs : Array Value) (p : Value × Nat) => cs.setIfInBounds (o + p.2) p.1) cells.toArray) = (cells.take (o + i) ++ vs ++ cells.drop (o + i + vs.length)).toArray := by
 induction vs with
 | nil => intro o i cells _; simp
 | cons v vs ih =>
  intro o i cells h
  simp only [List.length_cons] at h
  rw [List.zipIdx_cons, List.foldl_cons]
  have e : (cells.toArray.setIfInBounds (o + i) v) = (cells.set (o + i) v).toArray := by simp
  rw [e, ih o (i + 1) (cells.set (o + i) v) (by simp; omega)]
  congr 1
  have hlt : o + i < cells.length := by omega
  apply List.ext_getElem?
  intro q
  simp only [List.getElem?_append, List.getElem?_take, List.getElem?_drop, List.getElem?_set, List.length_append, List.length_take, List.length_set, List.length_cons]
  rcases Nat.lt_trichotomy q (o + i) with h1 | h1 | h1
  ·simp [show q < min (o + (i + 1)) cells.length by omega, show q < min (o + i) cells.length by omega, show q < o + (i + 1) by omega, show ¬ o + i = q by omega, h1, show q < min (o + (i + 1)) cells.length + vs.length by omega, show q < min (o + i) cells.length + (vs.length + 1) by omega]
  ·subst h1
   simp [show o + i < min (o + (i + 1)) cells.length by omega, show o + i < o + (i + 1) by omega, hlt, show o + i < min (o + (i + 1)) cells.length + vs.length by omega, show min (o + i) cells.length = o + i by omega]
  have e1 : min (o + (i + 1)) cells.length = o + i + 1 := by omega
  have e2 : min (o + i) cells.length = o + i := by omega
  rw [e1, e2]
  by_cases h2 : q < o + i + 1 + vs.length
  ·rw [if_pos h2, if_neg (by omega), if_pos (by omega), if_neg (by omega)]
   rw [show q - (o + i) = (q - (o + i + 1)) + 1 from by omega, List.getElem?_cons_succ]
  rw [if_neg h2, if_neg (by omega), if_neg (by omega)]
  congr 1
  omega
theorem Zak (place : Nat → Option (Nat × Nat)) : ∀ (parts : List (Nat × Value)) (cells cells' : List Value), Zdl place cells parts = some cells' → Instr.fill place cells.toArray parts = some cells'.toArray
 | [], cells, cells', h => by simp [Zdl] at h; simp [Instr.fill, h]
 | p :: rest, cells, cells', h => by
  obtain ⟨i, v⟩ := p
  simp only [Zdl] at h
  cases hp : place i with
  | none => simp [hp] at h
  | some q =>
   obtain ⟨off, size⟩ := q
   simp only [hp] at h
   cases hc : (Nat.beq v.cells.size size && Nat.ble (off + size) cells.length) with
   | false => simp [hc] at h
   | true =>
    simp only [hc, cond_true] at h
    simp only [Bool.and_eq_true] at hc
    have h1 : v.cells.size = size := Nat.eq_of_beq_eq_true hc.1
    have h2 : off + size ≤ cells.length := Nat.le_of_ble_eq_true hc.2
    have ih := Zak place rest _ _ h
    simp only [Instr.fill, hp]
    rw [if_neg (by simp [h1, h2])]
    have hf := Zes v.cells.toList off 0 cells (by rw [Array.length_toList, h1]; omega)
    simp only [Nat.add_zero, Array.length_toList, h1] at hf
    rw [← ih, ← hf]
    congr 1
    rw [← Array.foldl_toList, Array.toList_zipIdx]
def Zbu (P : Program) (t : TypeId) : Option (List (Nat × Nat)) :=
 match P.underlying t with
 | some (.struct fs) => fs.toList.mapM fun f => (Zs P f.type).map fun s => (f.offset, s)
 | _ => none
section
variable {P : Program} {w : World} {l : KL} {dst : Option Tmp} {ty : TypeId} {pos : String} {aft : Array Go.Edge} {gd : Option (Nat × Bool)} {K : Value → World → Prop}
theorem Zdo {fs : List Field} {pl : List (Nat × Nat)} (h : fs.mapM (fun f => (Zs P f.type).map fun s => (f.offset, s)) = some pl) :
   (fs.mapM (m := Sem) fun f => do pure (f.offset, ← sizeOf f.type)).run P w = .ok pl w := by
 induction fs generalizing pl with
 | nil => simp at h; simp [h]
 | cons f fs ih =>
  simp only [List.mapM_cons] at h
  cases hs : Zs P f.type with
  | none => simp [hs] at h
  | some s =>
   cases hr : fs.mapM (fun f => (Zs P f.type).map fun s => (f.offset, s)) with
   | none => simp [hs, hr] at h
   | some rs =>
    simp [hs, hr] at h
    simp only [List.mapM_cons, Sem.run_bind, Yw hs, Result.andThen_ok, Sem.run_pure, ih hr, h]
theorem Qp {t : TypeId} {parts : List (Nat × Operand)} {vs : List (Nat × Value)} {pl : List (Nat × Nat)} {z : Value} {cells : List Value} (hz : Xl P t = some z) (hp : Zbu P t = some pl) (hv : evp l parts = some vs)
   (hf : Zdl (fun (i : Nat) => pl[i]?) z.cells.toList vs = some cells) : Yg P l ⟨dst, .build t parts.toArray, ty, pos, aft, gd⟩ w (.agg cells.toArray) w := fun ρ hρ => by
 unfold Zbu at hp
 cases hu : P.underlying t with
 | none => simp [hu] at hp
 | some d =>
  cases d with
  | struct fs =>
   simp only [hu] at hp
   have h1 := Zct hρ parts vs hv
   have h2 : (fs.mapM (m := Sem) fun f => do pure (f.offset, ← sizeOf f.type)).run P w = .ok pl.toArray w := by
    rw [← Array.toArray_toList (xs := fs), List.mapM_toArray]
    simp only [Sem.run_map, Zdo hp, Result.andThen_ok]
   have h3 := Zak (fun (i : Nat) => pl[i]?) vs z.cells.toList cells hf
   have h4 : (parts.toArray.map fun p => (p.1, ρ p.2)) = vs.toArray := by rw [List.map_toArray, h1]
   have h5 : (fun (i : Nat) => pl.toArray[i]?) = fun (i : Nat) => pl[i]? := by funext i; simp
   simp only [Array.toArray_toList] at h3
   simp only [execOp, h4, Instr.build, Sem.run_bind, Zbc hz, Result.andThen_ok, run_underlying hu, h2, h5, h3, Sem.run_pure]
  | _ => simp [hu] at hp
variable {α : Type} {cs : α → List Value} {e k : Nat}
theorem Zw {t : TypeId} {n : Nat} {parts : List (Nat × Operand)} {vs : List (Nat × Value)} {z : Value} (z0 : α) (ys : List α) (ht : elB P t = some e) (hk : Zs P e = some k) (hz : Xl P e = some z) (hc : ∀ x, (cs x).length = k) (hk0 : 0 < k) (hzc : z.cells.toList = cs z0)
   (hv : evp l parts = some vs) (hn : ys.length = n) (hp : 0 < n) (hn0 : n * k ≤ 16777216) (hf : Zdl (fun i => some (i * k, k)) ((List.replicate n z0).flatMap cs) vs = some (ys.flatMap cs))
   (kk : ∀ v w', Ol cs e k w' v ys → Lo w.heap.size v → Ch [] w w' → K v w') : Step P l ⟨dst, .buildSlice t n parts.toArray, ty, pos, aft, gd⟩ w K := by
 have hpk : 0 < n * k := Nat.mul_pos hp hk0
 have h0 : (Array.range (n * k)).map (z.cells[· % z.cells.size]!) = ((List.replicate n z0).flatMap cs).toArray := by
  have := Zfa hzc hc hk0 n
  rw [← this]
  unfold madeCells
  rw [Array.toArray_toList]
 have h3 := Zak (fun i => some (i * k, k)) vs _ _ hf
 refine Step.of (v := .slice (some ⟨w.heap.size, 0, none⟩) n n) (w' := w.alloc (.cells (ys.flatMap cs).toArray e)) (fun ρ hρ => ?_) (kk _ _ ?_ (fun g hg => by simp [bl, Value.ownBlock] at hg; omega) (Ch.alloc w _))
 ·have h1 := Zct hρ parts vs hv
  have h4 : (parts.toArray.map fun p => (p.1, ρ p.2)) = vs.toArray := by rw [List.map_toArray, h1]
  have hlim : ¬ (n * k > 2 ^ 24) := by omega
  have hne : ¬ (n * k = 0) := by omega
  simp only [execOp, h4, Instr.buildSlice, Sem.run_bind, run_underlying (Xz ht), Result.andThen_ok, Yw hk, hlim, if_false, hne, Zbc hz, Sem.run_pure, h0, h3]
  simp [newRow]
 have hm : n ≤ maxLen := by
  have : n ≤ n * k := Nat.le_mul_of_pos_right _ hk0
  simp only [maxLen]; omega
 have := Ow.made w e k n (ys.flatMap cs).toArray n (Nat.le_refl _) hm (by simp [flat_len hc, hn])
 have hl : (ys.flatMap cs).length = n * k := by rw [flat_len hc, hn]
 rw [List.toList_toArray, List.take_of_length_le (by omega)] at this
 subst hn
 exact this
theorem Ym {t : TypeId} (cs : α → List Value) (ht : elB P t = some e) (hk : Zs P e = some k)
   (kk : ∀ v w', Ol cs e k w' v ([] : List α) → Lo w.heap.size v → Ch [] w w' → K v w') : Step P l ⟨dst, .buildSlice t 0 #[], ty, pos, aft, gd⟩ w K := by
 have e0 : Array.range 0 = #[] := rfl
 refine Step.of (v := .slice (some ⟨w.heap.size, 0, none⟩) 0 0) (w' := w.alloc (.cells #[] e)) (fun ρ _ => ?_) (kk _ _ ?_ (fun g hg => by simp [bl, Value.ownBlock] at hg; omega) (Ch.alloc w _))
 ·simp [execOp, Instr.buildSlice, run_underlying (Xz ht), Yw hk, Instr.fill, newRow, e0]
 have h := Ow.made w e k 0 #[] 0 (Nat.le_refl _) (Nat.zero_le _) (by simp)
 simp only [Nat.zero_mul, List.take_zero] at h
 exact h
end
end Go.KLib

namespace Go.KLib
noncomputable def tt (p : Prop) : Bool := @decide p (Classical.propDecidable p)
theorem Zao {p : Prop} : tt p = true ↔ p := by unfold tt; exact @decide_eq_true_iff p (Classical.propDecidable p)
theorem Xd {p : Prop} (h : p) : true = tt p := (Zao.2 h).symm
theorem Yb {p : Prop} (h : ¬ p) : false = tt p := by
 cases e : tt p
 ·rfl
 exact absurd (Zao.1 e) h
theorem Zga {p q : Prop} (h : p ↔ q) : tt p = tt q := by
 cases e : tt q
 ·exact (Yb (fun hp => by rw [Zao.2 (h.1 hp)] at e; cases e)).symm
 exact Zao.2 (h.2 (Zao.1 e))
theorem Zdu {p : Prop} {_ : Decidable p} : decide p = tt p := by
 by_cases h : p
 ·rw [← Xd h]; exact decide_eq_true h
 rw [← Yb h]; exact decide_eq_false h
theorem bt_t {p : Prop} (h : tt p = true) : p := Zao.1 h
theorem bf_t {p : Prop} (h : tt p = false) : ¬ p := fun hp => by rw [Zao.2 hp] at h; cases h
def okP (p : Pair) : Prop := 0 ≤ p.f ∧ p.f ≤ 4 ∧ 0 ≤ p.t ∧ p.t ≤ 4
def Xn (a b : Pair) : Prop := a.f < b.f ∨ (a.f = b.f ∧ a.t < b.t)
def Zcp (l : List Pair) (k : Nat) : Prop := (∀ i p, i < k → l[i]? = some p → okP p) ∧ (∀ i p q, i + 1 < k → l[i]? = some p → l[i + 1]? = some q → Xn p q)
def ArePairs (l : List Pair) : Prop := Zcp l l.length
theorem Zdi (l : List Pair) : Zcp l 0 := ⟨fun _ _ h => absurd h (by omega), fun _ _ _ h => absurd h (by omega)⟩
theorem Xk {l : List Pair} {k : Nat} {y : Pair} (h : Zcp l k) (hy : l[k]? = some y) (ok : okP y) (hs : ∀ j p, j + 1 = k → l[j]? = some p → Xn p y) : Zcp l (k + 1) := by
 refine ⟨fun i p hi hp => ?_, fun i p q hi hp hq => ?_⟩
 ·by_cases e : i = k
  ·subst e; rw [hy] at hp; cases hp; exact ok
  exact h.1 i p (by omega) hp
 by_cases e : i + 1 = k
 ·subst e; rw [hy] at hq; cases hq; exact hs i p rfl hp
 exact h.2 i p q (by omega) hp hq
theorem Zep {l : List Pair} {k : Nat} (h : Zcp l k) (h1 : l.length ≤ k) : ArePairs l := ⟨fun i p hi => h.1 i p (by omega), fun i p q hi => h.2 i p q (by omega)⟩
theorem Yu {l : List Pair} (e : ArePairs l) {k : Nat} {y : Pair} (hy : l[k]? = some y) : okP y := e.1 k y (List.getElem?_eq_some_iff.1 hy).1 hy
theorem Zaw {l : List Pair} (e : ArePairs l) {j k : Nat} {p y : Pair} (hj : j + 1 = k) (hp : l[j]? = some p) (hy : l[k]? = some y) : Xn p y := by
 subst hj
 exact e.2 j p y (List.getElem?_eq_some_iff.1 hy).1 hp hy
def cmpI (a b : Int) : Int := if a < b then -1 else if b < a then 1 else 0
def cmpP (a b : Pair) : Int := if a.f = b.f then cmpI a.t b.t else cmpI a.f b.f
theorem Zaz (a b : Pair) : cmpP a b < 0 ↔ Xn a b := by
 unfold cmpP cmpI Xn
 repeat' split
 all_goals omega
section
variable {P : Program} {w : World} {l : KL} {dst : Option Tmp} {ty : TypeId} {pos : String} {aft : Array Go.Edge} {gd : Option (Nat × Bool)} {x y : Operand} {xt yt : TypeId} {a b : Int} {k : IntKind}
end
end Go.KLib

namespace Go.KLib
end Go.KLib

namespace Go.KLib
section
variable {P : Program} {w : World}
theorem Zac {t ty e : TypeId} {i : TypeInfo} (ht : P.underlying t = some (.slice e)) (hi : P.info? e = some i)
   {g off n cap : Nat} {cur : Array Value} (hg : w.heap[g]? = some (.cells cur e (0, 0)))
   {a : Addr} {m c : Nat} {news : List Value} (hl : news.length = m * i.size) (hnews : ∀ j u, news[j]? = some u → w.cell? (a.add j) = some u) (h1 : ∀ u ∈ news, u.oneCell' = true)
   (hroom : n + m ≤ cap) (hfit : off + n * i.size + news.length ≤ cur.size) :
   (Builtin.append_ #[t, t] ty #[.slice (some ⟨g, off, none⟩) n cap, .slice (some a) m c]).run P w =
     .ok (.slice (some ⟨g, off, none⟩) (n + m) cap) (w.setRow g (cur.toList.take (off + n * i.size) ++ news ++ cur.toList.drop (off + n * i.size + news.length)).toArray) := by
 have hf := run_firstCells_some (P := P) w i.size m a m c news hl hnews
 have hst := run_storeCells_at P g (off + n * i.size) e news 0 cur w hg (by simpa using hfit) h1
 simp only [Nat.add_zero] at hst
 simp [Builtin.append_, run_underlying ht, sizeOf, typeInfo, hi, Builtin.lenOf, hroom, hf, Addr.add_lit, hst]
theorem Zbg {t ty e : TypeId} {i : TypeInfo} (ht : P.underlying t = some (.slice e)) (hi : P.info? e = some i)
   {k n : Nat} {v : Value} {xs : List Value} {e' : TypeId} (ho : Ow w e' k v n xs) (c : Nat) : (Builtin.append_ #[t, t] ty #[v, .slice none 0 c]).run P w = .ok v w := by
 rcases ho.2 with ⟨rfl, rfl⟩ | ⟨g, off, cap, cur, rfl, _, hnc, _⟩
 ·simp [Builtin.append_, run_underlying ht, sizeOf, typeInfo, hi, Builtin.lenOf, Builtin.firstCells]
 simp [Builtin.append_, run_underlying ht, sizeOf, typeInfo, hi, Builtin.lenOf, Builtin.firstCells, hnc, storeCells]
theorem Ow.append {t ty e : TypeId} {k by_ n m L B : Nat} {z v u : Value} {xs ys : List Value} (ht : elB P t = some e) (hk : Zs P e = some k) (hb : Zam P e = some by_) (hz : Xl P e = some z)
    (hzs : z.cells.size = k) (hk0 : 0 < k) (ho : Ow w e k v n xs) (hs : Sl w L B k u m ys) (h1 : ∀ y ∈ ys, y.oneCell' = true) (h63 : n + m ≤ 9223372036854775807) (hbytes : (n + m) * by_ ≤ 140737488355328) :
    ∃ v' w', (Builtin.append_ #[t, t] ty #[v, u]).run P w = .ok v' w' ∧ Ow w' e k v' (n + m) (xs ++ ys) ∧ Ch (bl v) w w' ∧ (bl v' = bl v ∨ bl v' = [w.heap.size]) := by
  obtain ⟨i, hi, hiz, his, hib⟩ := Zgp hk hb hz
  have hel := Xz ht
  obtain ⟨hyl, A, c, rfl, hmc, hcm, hA⟩ := hs
  have hmx : n + m ≤ maxLen := by simp only [maxLen]; omega
  have hlen : (xs ++ ys).length = (n + m) * k := by rw [List.length_append, ho.1, hyl, Nat.add_mul]
  rcases A with _ | ad
  · have hm : m = 0 := by
      rcases Nat.eq_zero_or_pos m with h | h
      · exact h
      · obtain ⟨ad, h2, _⟩ := hA h; cases h2
    subst hm
    have hys : ys = [] := List.eq_nil_of_length_eq_zero (by simpa using hyl)
    subst hys
    exact ⟨v, w, Zbg hel hi ho c, by simpa using ho, Ch.refl _ _, .inl rfl⟩
  · have hcells : ∀ j u, ys[j]? = some u → w.cell? (ad.add j) = some u := by
      intro j u hu
      rcases Nat.eq_zero_or_pos m with h | h
      · subst h
        have hys : ys = [] := List.eq_nil_of_length_eq_zero (by simpa using hyl)
        subst hys; simp at hu
      · obtain ⟨ad', h2, ha⟩ := hA h
        injection h2 with h2; subst h2
        exact ha.cell j hu
    have grown : ∀ (old : Nat), old < n + m → ∃ cap,
        Ow (w.drew.alloc (.cells (xs.toArray ++ ys.toArray ++ Builtin.zeroCells z.cells (grownCap w (n + m) old e - (n + m))) e)) e k (.slice (some ⟨w.heap.size, 0, none⟩) (n + m) cap) (n + m) (xs ++ ys) ∧ cap = grownCap w (n + m) old e := by
      intro old hold
      have hge := grownCap_ge w (n + m) old e
      have hcm' : grownCap w (n + m) old e ≤ maxLen := grownCap_le_maxLen w (n + m) old e hmx
      refine ⟨_, ⟨hlen, .inr ⟨w.heap.size, 0, _, _, rfl, heap_alloc_new w.drew _, hge, hcm', ?_, ?_⟩⟩, rfl⟩
      · simp only [Array.size_append, List.size_toArray, size_zeroCells, hzs, ho.1, hyl, ← Nat.add_mul]
        refine Nat.le_of_eq ?_
        rw [Nat.zero_add]; congr 1; omega
      · simp only [Array.toList_append, List.append_assoc, List.drop_zero]
        rw [← List.append_assoc, ← hlen]
        exact List.take_left
    have grow : ∀ o, Ch (bl v) w (w.drew.alloc o) := fun o => ⟨rfl, rfl, rfl, by simp, fun j hj _ => heap_alloc_old w.drew _ hj⟩
    subst his hib
    rcases ho.2 with ⟨rfl, rfl⟩ | ⟨g, off, cap, cur, rfl, hg, hnc, hcp, hcs, htake⟩
    · have hx : xs = [] := List.eq_nil_of_length_eq_zero (by simpa using ho.1)
      subst hx
      by_cases hm : m = 0
      · subst hm
        have hys : ys = [] := List.eq_nil_of_length_eq_zero (by simpa using hyl)
        subst hys
        refine ⟨.slice none 0 0, w, ?_, Ow.nil w e _, Ch.refl _ _, .inl rfl⟩
        simp [Builtin.append_, run_underlying hel, sizeOf, typeInfo, hi, Builtin.lenOf, Builtin.firstCells, loadCells, loadCellsFrom]
      · have hr := run_append_nil (P := P) w t ty e i z hel hi hiz ad m c ys hyl hcells (by omega) (by omega) (by simp only [Nat.zero_add] at hbytes; omega)
        obtain ⟨cp, h2, rfl⟩ := grown 0 (by omega)
        simp only [Nat.zero_add, List.nil_append, Array.empty_append] at h2 ⊢
        exact ⟨_, _, hr, h2, grow _, .inr rfl⟩
    · by_cases hroom : n + m ≤ cap
      · have hfit : off + n * i.size + ys.length ≤ cur.size := by
          have := Nat.mul_le_mul_right i.size hroom
          rw [hyl]; rw [Nat.add_mul] at this; omega
        have hr := Zac (P := P) (ty := ty) (c := c) hel hi hg hyl hcells h1 hroom hfit
        refine ⟨_, _, hr, ⟨hlen, .inr ⟨g, off, cap, _, rfl, setRow_heap w g cur _ e _ hg, hroom, hcp, ?_, ?_⟩⟩, ⟨rfl, rfl, rfl, by simp [World.setRow], fun j _ hj => setRow_other w g j _ (fun e => hj (by simp [bl, Value.ownBlock, e]))⟩, .inl rfl⟩
        · simp only [List.size_toArray, List.length_append, List.length_take, List.length_drop, Array.length_toList]
          omega
        · have hto : (cur.toList.take (off + n * i.size)).drop off = xs := by
            rw [← htake, List.drop_take]; congr 1; omega
          have hol : off ≤ (cur.toList.take (off + n * i.size)).length := by rw [List.length_take, Array.length_toList]; omega
          show ((((cur.toList.take (off + n * i.size)) ++ ys ++ _).toArray).toList.drop off).take _ = _
          rw [show (∀ l : List Value, l.toArray.toList = l) from fun _ => rfl, List.append_assoc, List.drop_append_of_le_length hol, hto, ← List.append_assoc, ← hlen]
          exact List.take_left
      · have holds : ∀ j u, xs[j]? = some u → w.cell? ((⟨g, off, none⟩ : Addr).add j) = some u := fun j u hu => by rw [add_lit]; exact ho.cells rfl j u hu
        have hr := run_append_grow (P := P) w t ty e i z hel hi hiz ⟨g, off, none⟩ n cap xs ho.1 holds ad m c ys hyl hcells (by omega) (by omega) (growslice_fits (by omega) hbytes)
        obtain ⟨cp, h2, rfl⟩ := grown cap (by omega)
        exact ⟨_, _, hr, h2, grow _, .inr rfl⟩
variable {α : Type} {cs : α → List Value} {l : KL} {K : Value → World → Prop} {dst : Option Tmp} {pos : String} {aft : Array Go.Edge} {gd : Option (Nat × Bool)}
theorem Yy {s x : Operand} {t ty e : TypeId} {k by_ L B B0 : Nat} {z v u : Value} {xs ys : List α} (ht : elB P t = some e) (hk : Zs P e = some k) (hb : Zam P e = some by_) (hz : Xl P e = some z)
   (hzs : z.cells.size = k) (hk0 : 0 < k) (h1 : ∀ x, ∀ y ∈ cs x, y.oneCell' = true) (ho : Ol cs e k w v xs) (hs : Ls cs k w L B u ys) (hx : ev l s = some v) (hy : ev l x = some u)
   (hbytes : (xs.length + ys.length) * by_ ≤ 140737488355328) (h63 : xs.length + ys.length ≤ 9223372036854775807) (hlo : Lo B0 v) (hB : B0 ≤ w.heap.size)
   (kk : ∀ v' w', Ol cs e k w' v' (xs ++ ys) → Lo B0 v' → (bl v' = bl v ∨ bl v' = [w.heap.size]) → Ch (bl v) w w' → K v' w') :
   Step P l ⟨dst, .call { callee := .builtin .append, args := #[s, x], argTypes := #[t, t] }, ty, pos, aft, gd⟩ w K := by
 obtain ⟨v', w', hr, h2, h3, h4⟩ := Ow.append (ty := ty) ht hk hb hz hzs hk0 ho hs (fun y hy => by obtain ⟨a, _, ha⟩ := List.mem_flatMap.1 hy; exact h1 a y ha) h63 hbytes
 refine Step.of (v := v') (w' := w') (fun ρ hρ => ?_) (kk v' w' ?_ ?_ h4 h3)
 ·unfold execOp
  simp only [resolve, invoke, builtin, Sem.run_bind, Sem.run_pure, Result.andThen_ok, List.map_toArray, List.map_cons, List.map_nil, hρ _ _ hx, hρ _ _ hy, hr]
 ·show Ow w' e k v' (xs ++ ys).length ((xs ++ ys).flatMap cs)
  rw [List.length_append, List.flatMap_append]; exact h2
 intro g hg
 rcases h4 with h4 | h4
 ·rw [h4] at hg; exact hlo g hg
 rw [h4] at hg; have := List.mem_singleton.1 hg; omega
end
theorem Pair.one (x : Pair) : ∀ y ∈ x.cs, y.oneCell' = true := by intro y hy; simp [Pair.cs] at hy; rcases hy with rfl | rfl <;> rfl
theorem Token.one (x : Token) : ∀ y ∈ x.cs, y.oneCell' = true := by intro y hy; simp [Token.cs] at hy; rcases hy with rfl | rfl | rfl | rfl <;> rfl
theorem GEdge.one (x : GEdge) : ∀ y ∈ x.cs, y.oneCell' = true := by intro y hy; simp [GEdge.cs] at hy; rcases hy with rfl | rfl | rfl | rfl <;> rfl
structure Sv where
 A : Option Addr
 n : Nat
 c : Nat
def Sv.v (s : Sv) : Value := .slice s.A s.n s.c
def Sv.cs (s : Sv) : List Value := [.slice s.A s.n s.c]
theorem Sv.len (s : Sv) : s.cs.length = 1 := rfl
theorem Sv.one (x : Sv) : ∀ y ∈ x.cs, y.oneCell' = true := by intro y hy; simp [Sv.cs] at hy; subst hy; rfl
def Rd {α : Type} (cs : α → List Value) (k : Nat) (w : World) (L B : Nat) (vs : List Sv) (xs : List (List α)) : Prop :=
 vs.length = xs.length ∧ ∀ (i : Nat) (v : Sv) (x : List α), vs[i]? = some v → xs[i]? = some x → Ls cs k w L B v.v x
section
variable {α : Type} {cs : α → List Value} {k L L' B B' : Nat} {w w' : World} {vs : List Sv} {xs : List (List α)} {ws : List Nat}
theorem Rd.ch (h : Rd cs k w L B vs xs) (c : Ch ws w w') (hw : ∀ i ∈ ws, i < L ∨ B ≤ i) : Rd cs k w' L B vs xs := ⟨h.1, fun i v x a b => (h.2 i v x a b).ch c hw⟩
theorem Rd.ch0 (h : Rd cs k w L B vs xs) (c : Ch [] w w') : Rd cs k w' L B vs xs := h.ch c (by simp)
theorem Rd.up (h : Rd cs k w L B vs xs) (hL : L' ≤ L) (hB : B ≤ B') : Rd cs k w L' B' vs xs := ⟨h.1, fun i v x a b => (h.2 i v x a b).up hL hB⟩
theorem Rd.here (h : Rd cs k w L B vs xs) (hk : 0 < k) : Rd cs k w L w.heap.size vs xs := ⟨h.1, fun i v x a b => (h.2 i v x a b).here hk⟩
theorem Rd.nil : Rd cs k w L B [] ([] : List (List α)) := ⟨rfl, fun _ _ _ h => by simp at h⟩
theorem Rd.cons {v : Sv} {x : List α} (h : Ls cs k w L B v.v x) (r : Rd cs k w L B vs xs) : Rd cs k w L B (v :: vs) (x :: xs) := by
 refine ⟨by simp [r.1], fun i u y a b => ?_⟩
 cases i with
 | zero => simp at a b; subst a b; exact h
 | succ i => exact r.2 i u y (by simpa using a) (by simpa using b)
theorem Rd.get (h : Rd cs k w L B vs xs) {i : Nat} {y : Sv} (hy : vs[i]? = some y) : ∃ x, xs[i]? = some x ∧ Ls cs k w L B y.v x := by
 have hi := (List.getElem?_eq_some_iff.1 hy).1
 have hx : xs[i]? = some (xs[i]'(by have := h.1; omega)) := List.getElem?_eq_getElem _
 exact ⟨_, hx, h.2 i y _ hy hx⟩
end
end Go.KLib

namespace Go.KLib
def isK (e : List Token) (k : Int) : Bool := decide (e.length = 1 ∧ (e.getD 0 ⟨0, 0, 0, 0⟩).kind = k)
end Go.KLib

namespace Go.KLib
open Go.ChangeShapes Go.WideShapes Go.ChangeAt Go.RowKit Go.Deep Go.Joins
def Od {α : Type} (cs : α → List Value) (e k : Nat) (w : World) (lo hi : Nat) (vs : List Sv) (xs : List (List α)) : Prop :=
 vs.length = xs.length ∧ (∀ (i : Nat) (v : Sv) (x : List α), vs[i]? = some v → xs[i]? = some x → Ol cs e k w v.v x ∧ ∀ g ∈ bl v.v, lo ≤ g ∧ g < hi) ∧
 ∀ (i j : Nat) (u v : Sv), vs[i]? = some u → vs[j]? = some v → i < j → ∀ g ∈ bl u.v, g ∉ bl v.v
section
variable {α : Type} {cs : α → List Value} {e k lo hi hi' : Nat} {w w' : World} {vs : List Sv} {xs : List (List α)} {ws : List Nat}
theorem Od.ch (h : Od cs e k w lo hi vs xs) (c : Ch ws w w') (hw : ∀ i ∈ ws, i < lo ∨ hi ≤ i) : Od cs e k w' lo hi vs xs :=
 ⟨h.1, fun i v x a b => ⟨(h.2.1 i v x a b).1.ch c fun g hg hm => by have h1 := (h.2.1 i v x a b).2 g hg; have h2 := hw g hm; omega, (h.2.1 i v x a b).2⟩, h.2.2⟩
theorem Od.ch0 (h : Od cs e k w lo hi vs xs) (c : Ch [] w w') : Od cs e k w' lo hi vs xs := h.ch c (by simp)
theorem Od.up {lo' : Nat} (h : Od cs e k w lo hi vs xs) (hl : lo' ≤ lo) (hh : hi ≤ hi') : Od cs e k w lo' hi' vs xs :=
 ⟨h.1, fun i v x a b => ⟨(h.2.1 i v x a b).1, fun g hg => by have h1 := (h.2.1 i v x a b).2 g hg; omega⟩, h.2.2⟩
theorem Od.rd (h : Od cs e k w lo hi vs xs) : Rd cs k w 0 w.heap.size vs xs := ⟨h.1, fun i v x a b => (h.2.1 i v x a b).1.ls⟩
theorem Od.get (h : Od cs e k w lo hi vs xs) {i : Nat} {y : Sv} (hy : vs[i]? = some y) : ∃ x, xs[i]? = some x ∧ Ls cs k w 0 w.heap.size y.v x := h.rd.get hy
theorem Od.nil : Od cs e k w lo hi [] ([] : List (List α)) := ⟨rfl, fun _ _ _ h => by simp at h, fun _ _ _ _ h => by simp at h⟩
theorem Yt {β : Type} {vs : List β} {v u : β} {i : Nat} (h : (vs ++ [v])[i]? = some u) : (i < vs.length ∧ vs[i]? = some u) ∨ (i = vs.length ∧ u = v) := by
 rcases Nat.lt_or_ge i vs.length with hl | hl
 ·rw [List.getElem?_append_left hl] at h; exact .inl ⟨hl, h⟩
 rw [List.getElem?_append_right hl] at h
 rcases Nat.eq_or_lt_of_le hl with he | he
 ·rw [← he] at h; simp at h; exact .inr ⟨he.symm, h.symm⟩
 rw [List.getElem?_eq_none (by simp; omega)] at h; cases h
theorem Od.snoc (h : Od cs e k w lo hi vs xs) {v : Sv} {x : List α} (ho : Ol cs e k w v.v x) (hl : Lo hi v.v) (hu : ∀ g ∈ bl v.v, g < hi') (hh : hi ≤ hi') (hlo : lo ≤ hi) : Od cs e k w lo hi' (vs ++ [v]) (xs ++ [x]) := by
 refine ⟨by simp [h.1], fun i u y a b => ?_, fun i j u u' a b hij => ?_⟩
 ·rcases Yt a with ⟨a1, a2⟩ | ⟨a1, a2⟩
  ·rcases Yt b with ⟨b1, b2⟩ | ⟨b1, b2⟩
   ·exact ⟨(h.2.1 i u y a2 b2).1, fun g hg => by have h1 := (h.2.1 i u y a2 b2).2 g hg; omega⟩
   have := h.1; omega
  rcases Yt b with ⟨b1, b2⟩ | ⟨b1, b2⟩
  ·have := h.1; omega
  subst a2 b2; exact ⟨ho, fun g hg => ⟨by have := hl g hg; omega, hu g hg⟩⟩
 rcases Yt b with ⟨b1, b2⟩ | ⟨b1, b2⟩
 ·rcases Yt a with ⟨a1, a2⟩ | ⟨a1, a2⟩
  ·exact h.2.2 i j u u' a2 b2 hij
  omega
 rcases Yt a with ⟨a1, a2⟩ | ⟨a1, a2⟩
 ·subst b2
  intro g hg hm
  have hx : xs[i]? = some (xs[i]'(by have := h.1; omega)) := List.getElem?_eq_getElem _
  have h1 := (h.2.1 i u _ a2 hx).2 g hg
  have h2 := hl g hm
  omega
 omega
end
theorem Zbb {β : Type} {xs : List β} {k : Nat} {y : β} (h : xs[k]? = some y) : xs.take (k + 1) = xs.take k ++ [y] := by rw [List.take_add_one, h]; rfl
theorem Zu {β : Type} {xs : List β} {k : Nat} {a b : β} (h : xs[k]? = some a) (h' : xs[k]? = some b) : a = b := by rw [h] at h'; injection h'
section
variable {H : Type} {enc : TypeId × Value → H} {P : Program} {w : World} {base : Nat} {spare : Nat → Bool} {held : Bool}
end
def RowP (n : Int) (r : List Int) (k : Nat) : Prop := ∀ (j : Nat) (t : Int), j < k → r[j]? = some t → -1 ≤ t ∧ t ≤ n - 1
def Zhb (n : Int) (r : List Int) : Prop := r.length = 9 ∧ RowP n r r.length
def Zht (n : Int) (N : List (List Int)) (s : Nat) : Prop := ∀ (j : Nat) (r : List Int), j < s → N[j]? = some r → Zhb n r
def Zgb (S : Int) (A : List Bool) (N : List (List Int)) : Prop := (0 ≤ S ∧ S ≤ (A.length : Int) - 1) ∧ N.length = A.length ∧ Zht A.length N N.length
def Qz (S : Int) (A : List Bool) (N : List (List Int)) : Prop := A.length ≤ 12 ∧ Zgb S A N
theorem Zat {S : Int} {A : List Bool} {N : List (List Int)} (e : Zgb S A N) {k : Nat} {r : List Int} (h : N[k]? = some r) : Zhb A.length r :=
 e.2.2 k r (List.getElem?_eq_some_iff.1 h).1 h
theorem Zgm {S : Int} {A : List Bool} {N : List (List Int)} (e : Zgb S A N) {k j : Nat} {r : List Int} {t : Int} (h : N[k]? = some r) (ht : r[j]? = some t) : -1 ≤ t ∧ t ≤ (A.length : Int) - 1 :=
 (Zat e h).2 j t (List.getElem?_eq_some_iff.1 ht).1 ht
end Go.KLib

namespace Go.KLib
def Zfy (N : List (List Int)) (s x : Int) : Int := if s < 0 ∨ ¬ (0 ≤ x ∧ x ≤ 8) then -1 else (N.getD s.toNat []).getD x.toNat 0
def Xo (A : List Bool) (s : Int) : Bool := decide (0 ≤ s) && A.getD s.toNat false
theorem Zhp {A : List Bool} {s : Int} (h : ¬ 0 ≤ s) : false = Xo A s := by
 unfold Xo; rw [decide_eq_false h]; rfl
end Go.KLib

namespace Go.KLib
inductive Cl (B : Nat → Prop) (R : Nat → Nat → Prop) : Nat → Prop
 | base {s : Nat} (h : B s) : Cl B R s
 | step {s t : Nat} (h : R s t) (k : Cl B R t) : Cl B R s
def ClN (B : Nat → Prop) (R : Nat → Nat → Prop) : Nat → Nat → Prop
 | 0, s => B s
 | j + 1, s => ClN B R j s ∨ ∃ t, R s t ∧ ClN B R j t
noncomputable def clL (B : Nat → Prop) (R : Nat → Nat → Prop) (n : Nat) : List Bool := (List.range n).map fun s => tt (Cl B R s)
section
variable {B : Nat → Prop} {R : Nat → Nat → Prop} {n : Nat}
theorem Zgi {s : Nat} (hs : s < n) : (clL B R n)[s]? = some (tt (Cl B R s)) := by simp [clL, hs]
theorem ClN.up {j s : Nat} (h : ClN B R j s) : ∀ i, ClN B R (j + i) s
 | 0 => h
 | i + 1 => .inl (h.up i)
end
def Zfb (A : List Bool) (s : Nat) : Prop := A[s]? = some true
def Zds (N : List (List Int)) (s t : Nat) : Prop := ∃ (i : Nat) (r : List Int), N[s]? = some r ∧ r[i]? = some (t : Int)
theorem Zfp {l : List Bool} {i s : Nat} (h : l[s]? = some true) : (l.set i true)[s]? = some true := by
 rw [List.getElem?_set]
 split
 ·rename_i e; subst e
  rw [if_pos (List.getElem?_eq_some_iff.1 h).1]
 exact h
section
variable {A : List Bool} {N : List (List Int)} {j s k i : Nat} {l : List Bool} {r : List Int} {y : Int}
noncomputable def Yj (A : List Bool) (N : List (List Int)) : List Bool := clL (Zfb A) (Zds N) A.length
end
section
variable {P : Program} {w : World} {l : KL} {dst : Option Tmp} {ty : TypeId} {pos : String} {aft : Array Go.Edge} {gd : Option (Nat × Bool)} {x y : Operand} {xt yt : TypeId}
end
theorem Ls.none {α : Type} {cs : α → List Value} {k L B n c : Nat} {w : World} {A : Option Addr} {xs : List α} (h : Ls cs k w L B (.slice A n c) xs) (hA : A.isNone = true) : xs = [] := by
 obtain ⟨_, A', c', e, _, _, h3⟩ := h
 injection e with e1 e2
 subst e1
 rcases Nat.eq_zero_or_pos xs.length with h0 | h0
 ·exact List.eq_nil_of_length_eq_zero h0
 obtain ⟨ad, ha, _⟩ := h3 h0
 rw [ha] at hA; cases hA
section
variable {A : List Bool} {N : List (List Int)} {s k : Nat} {l : List Bool} {r : List Int} {y : Int}
end
end Go.KLib

namespace Go.KLib
inductive Tr where
 | l0 (t : Token)
 | l1 (t : Token) (a : Tr)
 | l2 (t : Token) (a b : Tr)
def Tr.tok : Tr → Token
 | .l0 t => t
 | .l1 t _ => t
 | .l2 t _ _ => t
def Tr.kids : Tr → List Tr
 | .l0 _ => []
 | .l1 _ a => [a]
 | .l2 _ a b => [a, b]
def Tr.flat : Tr → List Token
 | .l0 t => [t]
 | .l1 t a => a.flat ++ [t]
 | .l2 t a b => a.flat ++ b.flat ++ [t]
def Tr.sz : Tr → Nat
 | .l0 _ => 1
 | .l1 _ a => a.sz + 1
 | .l2 _ a b => a.sz + b.sz + 1
theorem Tr.flat_len : ∀ t : Tr, t.flat.length = t.sz
 | .l0 _ => rfl
 | .l1 _ a => by simp [Tr.flat, Tr.sz, flat_len a]
 | .l2 _ a b => by simp [Tr.flat, Tr.sz, flat_len a, flat_len b, Nat.add_assoc]
theorem Tr.sz_pos : ∀ t : Tr, 0 < t.sz
 | .l0 _ => Nat.one_pos
 | .l1 _ _ => Nat.succ_pos _
 | .l2 _ _ _ => Nat.succ_pos _
def arT (t : Token) : Int :=
 if t.kind = 1 ∨ t.kind = 2 then (if t.letter = 0 ∧ t.low = 0 ∧ t.high = 0 then 0 else -1)
 else if t.kind = 3 then (if (0 ≤ t.letter ∧ t.letter ≤ 8) ∧ t.low = 0 ∧ t.high = 0 then 0 else -1)
 else if t.kind = 4 ∨ t.kind = 5 then (if t.letter = 0 ∧ t.low = 0 ∧ t.high = 0 then 2 else -1)
 else if t.kind = 6 then (if t.letter = 0 ∧ t.low = 0 ∧ t.high = 0 then 1 else -1)
 else if t.kind = 7 then (if t.letter = 0 ∧ (1 ≤ t.high ∧ t.high ≤ 3) ∧ (0 ≤ t.low ∧ t.low ≤ t.high) then 1 else -1)
 else -1
def arK (k : Int) : Int := if k = 4 ∨ k = 5 then 2 else if k = 6 ∨ k = 7 then 1 else 0
theorem Zhl {t : Token} (h : 0 ≤ arT t) : arT t = arK t.kind := by
 unfold arT arK at *
 repeat' split at h
 all_goals first | omega | (repeat' split) <;> omega
def Okd : Tr → Prop
 | .l0 t => arT t = 0
 | .l1 t a => arT t = 1 ∧ Okd a
 | .l2 t a b => arT t = 2 ∧ Okd a ∧ Okd b
theorem Okd.ar {t : Tr} (h : Okd t) : arT t.tok = t.kids.length := by
 cases t with
 | l0 t => exact h
 | l1 t a => exact h.1
 | l2 t a b => exact h.1
end Go.KLib

namespace Go.KLib
def acs (a : Addr) : List Value := [.pointer (some a)]
def Cel (w : World) (p : Addr) (cs : List Value) : Prop := ∀ j u, cs[j]? = some u → w.cell? (p.add j) = some u
theorem Cel.ch {w w' : World} {p : Addr} {cs : List Value} {ws : List Nat} (h : Cel w p cs) (c : Ch ws w w') (hn : p.block ∉ ws) : Cel w' p cs :=
 fun j u hu => c.cell (h j u hu) (by rwa [Qf])
def TrF (w : World) (F : Nat → Prop) : Addr → Tr → Prop
 | p, .l0 t => F p.block ∧ ∃ A C, Cel w p (t.cs ++ [.slice A 0 C]) ∧ C ≤ maxLen
 | p, .l1 t a => F p.block ∧ ∃ d C q, Cel w p (t.cs ++ [.slice (some d) 1 C]) ∧ 1 ≤ C ∧ C ≤ maxLen ∧ F d.block ∧ Cel w d [.pointer (some q)] ∧ TrF w F q a
 | p, .l2 t a b => F p.block ∧ ∃ d C q r, Cel w p (t.cs ++ [.slice (some d) 2 C]) ∧ 2 ≤ C ∧ C ≤ maxLen ∧ F d.block ∧ Cel w d [.pointer (some q), .pointer (some r)] ∧ TrF w F q a ∧ TrF w F r b
section
variable {w w' : World} {F G : Nat → Prop} {p : Addr} {t : Tr} {ws : List Nat} {L L' B B' : Nat}
theorem TrF.ch (c : Ch ws w w') (hw : ∀ i, F i → i ∉ ws) : ∀ {t : Tr} {p : Addr}, TrF w F p t → TrF w' F p t
 | .l0 _, _, ⟨h0, A, C, h1, h2⟩ => ⟨h0, A, C, h1.ch c (hw _ h0), h2⟩
 | .l1 _ _, _, ⟨h0, d, C, q, h1, h2, h3, h4, h5, h6⟩ => ⟨h0, d, C, q, h1.ch c (hw _ h0), h2, h3, h4, h5.ch c (hw _ h4), h6.ch c hw⟩
 | .l2 _ _ _, _, ⟨h0, d, C, q, r, h1, h2, h3, h4, h5, h6, h7⟩ => ⟨h0, d, C, q, r, h1.ch c (hw _ h0), h2, h3, h4, h5.ch c (hw _ h4), h6.ch c hw, h7.ch c hw⟩
theorem TrF.mono (hF : ∀ i, F i → G i) : ∀ {t : Tr} {p : Addr}, TrF w F p t → TrF w G p t
 | .l0 _, _, ⟨h0, A, C, h1, h2⟩ => ⟨hF _ h0, A, C, h1, h2⟩
 | .l1 _ _, _, ⟨h0, d, C, q, h1, h2, h3, h4, h5, h6⟩ => ⟨hF _ h0, d, C, q, h1, h2, h3, hF _ h4, h5, h6.mono hF⟩
 | .l2 _ _ _, _, ⟨h0, d, C, q, r, h1, h2, h3, h4, h5, h6, h7⟩ => ⟨hF _ h0, d, C, q, r, h1, h2, h3, hF _ h4, h5, h6.mono hF, h7.mono hF⟩
theorem Cel.lt {v : Value} {cs : List Value} (h : Cel w p (v :: cs)) : p.block < w.heap.size := by
 have := World.block_lt_of_cell? w _ (h 0 v rfl)
 rwa [Qf] at this
theorem TrF.here : ∀ {t : Tr} {p : Addr}, TrF w F p t → TrF w (fun b => b < w.heap.size ∧ F b) p t
 | .l0 _, _, ⟨h0, A, C, h1, h2⟩ => ⟨⟨Cel.lt h1, h0⟩, A, C, h1, h2⟩
 | .l1 _ _, _, ⟨h0, d, C, q, h1, h2, h3, h4, h5, h6⟩ => ⟨⟨Cel.lt h1, h0⟩, d, C, q, h1, h2, h3, ⟨Cel.lt h5, h4⟩, h5, h6.here⟩
 | .l2 _ _ _, _, ⟨h0, d, C, q, r, h1, h2, h3, h4, h5, h6, h7⟩ => ⟨⟨Cel.lt h1, h0⟩, d, C, q, r, h1, h2, h3, ⟨Cel.lt h5, h4⟩, h5, h6.here, h7.here⟩
def TrAt (w : World) (L B : Nat) (p : Addr) (t : Tr) : Prop := TrF w (fun b => L ≤ b ∧ b < B) p t
theorem TrAt.ch (h : TrAt w L B p t) (c : Ch ws w w') (hw : ∀ i ∈ ws, i < L ∨ B ≤ i) : TrAt w' L B p t := TrF.ch c (fun i hi hm => by have := hw i hm; omega) h
theorem TrAt.ch0 (h : TrAt w L B p t) (c : Ch [] w w') : TrAt w' L B p t := h.ch c (by simp)
theorem TrAt.up (h : TrAt w L B p t) (hL : L' ≤ L) (hB : B ≤ B') : TrAt w L' B' p t := TrF.mono (fun i hi => ⟨Nat.le_trans hL hi.1, Nat.lt_of_lt_of_le hi.2 hB⟩) h
theorem TrAt.here (h : TrAt w L B p t) : TrAt w L w.heap.size p t := TrF.mono (fun _ h => ⟨h.2.1, h.1⟩) (TrF.here h)
def Kd (w : World) (L B : Nat) (ps : List Addr) (ts : List Tr) : Prop := ps.length = ts.length ∧ ∀ (i : Nat) (q : Addr) (t : Tr), ps[i]? = some q → ts[i]? = some t → TrAt w L B q t
variable {ps : List Addr} {ts : List Tr}
theorem Kd.ch (h : Kd w L B ps ts) (c : Ch ws w w') (hw : ∀ i ∈ ws, i < L ∨ B ≤ i) : Kd w' L B ps ts := ⟨h.1, fun i q t a b => (h.2 i q t a b).ch c hw⟩
theorem Kd.ch0 (h : Kd w L B ps ts) (c : Ch [] w w') : Kd w' L B ps ts := h.ch c (by simp)
theorem Kd.up (h : Kd w L B ps ts) (hL : L' ≤ L) (hB : B ≤ B') : Kd w L' B' ps ts := ⟨h.1, fun i q t a b => (h.2 i q t a b).up hL hB⟩
theorem Kd.get (h : Kd w L B ps ts) {i : Nat} {y : Addr} (hy : ps[i]? = some y) : ∃ k, ts[i]? = some k ∧ TrAt w L B y k := by
 have hi := (List.getElem?_eq_some_iff.1 hy).1
 have hx : ts[i]? = some (ts[i]'(by have := h.1; omega)) := List.getElem?_eq_getElem _
 exact ⟨_, hx, h.2 i y _ hy hx⟩
theorem Kd.nil : Kd w L B [] [] := ⟨rfl, fun _ _ _ h => by simp at h⟩
theorem Kd.cons {q : Addr} (h : TrAt w L B q t) (r : Kd w L B ps ts) : Kd w L B (q :: ps) (t :: ts) := by
 refine ⟨by simp [r.1], fun i u y a b => ?_⟩
 cases i with
 | zero => simp at a b; subst a b; exact h
 | succ i => exact r.2 i u y (by simpa using a) (by simpa using b)
theorem Cel.at {cs : List Value} (h : Cel w p cs) (hb : L ≤ p.block ∧ p.block < B) : At w L B p cs := ⟨hb, h⟩
theorem TrAt.open (h : TrAt w L B p t) : ∃ (A : Option Addr) (C : Nat) (ps : List Addr), At w L B p [.int .i64 t.tok.kind, .int .i64 t.tok.letter, .int .i64 t.tok.low, .int .i64 t.tok.high, .slice A ps.length C] ∧ Ls acs 1 w L B (.slice A ps.length C) ps ∧ Kd w L B ps t.kids := by
 cases t with
 | l0 k =>
  obtain ⟨h0, A, C, h1, h2⟩ := h
  exact ⟨A, C, [], ⟨h0, h1⟩, ⟨rfl, A, C, rfl, Nat.zero_le _, h2, fun h => absurd h (by simp)⟩, Kd.nil⟩
 | l1 k a =>
  obtain ⟨h0, d, C, q, h1, h2, h3, h4, h5, h6⟩ := h
  exact ⟨some d, C, [q], ⟨h0, h1⟩, ⟨rfl, some d, C, rfl, h2, h3, fun _ => ⟨d, rfl, h4, h5⟩⟩, Kd.cons h6 Kd.nil⟩
 | l2 k a b =>
  obtain ⟨h0, d, C, q, r, h1, h2, h3, h4, h5, h6, h7⟩ := h
  exact ⟨some d, C, [q, r], ⟨h0, h1⟩, ⟨rfl, some d, C, rfl, h2, h3, fun _ => ⟨d, rfl, h4, h5⟩⟩, Kd.cons h6 (Kd.cons h7 Kd.nil)⟩
def mkTr (t : Token) : List Tr → Tr
 | [] => .l0 t
 | [a] => .l1 t a
 | a :: b :: _ => .l2 t a b
def KdF (w : World) (F : Nat → Prop) (ps : List Addr) (ts : List Tr) : Prop := ps.length = ts.length ∧ ∀ (i : Nat) (q : Addr) (t : Tr), ps[i]? = some q → ts[i]? = some t → TrF w F q t
theorem TrF.mk {k : Token} {v : Value} (hp : F p.block) (hc : Cel w p (k.cs ++ [v])) (hs : Ls acs 1 w L B v ps) (hF : ∀ A n c, v = .slice (some A) n c → 0 < n → F A.block) (hk : KdF w F ps ts) (h2 : ps.length ≤ 2) : TrF w F p (mkTr k ts) := by
 obtain ⟨hl, A, C, rfl, hn, hm, hA⟩ := hs
 obtain ⟨he, hk⟩ := hk
 match ps, ts, he with
 | [], [], _ => exact ⟨hp, A, C, hc, hm⟩
 | [q], [a], _ =>
  obtain ⟨d, rfl, hd⟩ := hA (by simp)
  exact ⟨hp, d, C, q, hc, hn, hm, hF _ _ _ rfl (by simp), hd.2, hk 0 q a rfl rfl⟩
 | [q, r], [a, b], _ =>
  obtain ⟨d, rfl, hd⟩ := hA (by simp)
  exact ⟨hp, d, C, q, r, hc, hn, hm, hF _ _ _ rfl (by simp), hd.2, hk 0 q a rfl rfl, hk 1 r b rfl rfl⟩
 | _ :: _ :: _ :: _, _, _ => simp at h2
end
end Go.KLib

namespace Go.KLib
section
variable {P : Program} {w : World} {l : KL} {dst : Option Tmp} {ty : TypeId} {pos : String} {aft : Array Go.Edge} {gd : Option (Nat × Bool)} {K : Value → World → Prop}
variable {α : Type} {cs : α → List Value} {e k L B : Nat} {v : Value} {xs : List α}
end
section
variable {P : Program} {w : World} {l : KL} {dst : Option Tmp} {ty : TypeId} {pos : String} {aft : Array Go.Edge} {gd : Option (Nat × Bool)} {x y : Operand} {xt yt : TypeId} {p : Option Addr}
end
section
variable {P : Program} {N : Nat} {Q : Po} {l : KL} {w : World} {ops : Array Oper} {rest : List Oper}
theorem Zbx {c : Operand} {x y : Code} {b : Bool} (hc : ev l c = some (.bool b)) (hb : b = false) (hf : W P N y Q l w) : W P N (.cond c x y) Q l w := by subst hb; exact Zbr hc hf
theorem Zet {d : Nat} {b : Bool} (hd : Xj l d = some (.bool b)) (hb : b = false) (h : WL P N ops Q rest ((d, .bool false) :: l) w) : WL P N ops Q rest l w := by subst hb; exact Zdv (Sub.cons hd (Sub.refl l)) h
end
def Sep (v : Value) (vs : List Sv) : Prop := ∀ u ∈ vs, ∀ g ∈ bl u.v, g ∉ bl v
end Go.KLib

namespace Go.KLib
def Tks (w : World) (L : Nat) (v : Value) (ps : List Addr) (st : List Tr) : Prop := KdF w (fun b => L ≤ b ∧ b < w.heap.size ∧ b ∉ bl v) ps st.reverse
theorem Tks.nil (w : World) (L : Nat) (v : Value) : Tks w L v [] [] := ⟨rfl, fun _ _ _ h => by simp at h⟩
theorem KdF.ch {w w' : World} {F : Nat → Prop} {ps : List Addr} {ts : List Tr} {ws : List Nat} (h : KdF w F ps ts) (c : Ch ws w w') (hw : ∀ i, F i → i ∉ ws) : KdF w' F ps ts :=
 ⟨h.1, fun i q t a b => (h.2 i q t a b).ch c hw⟩
theorem KdF.mono {w : World} {F G : Nat → Prop} {ps : List Addr} {ts : List Tr} (h : KdF w F ps ts) (hF : ∀ i, F i → G i) : KdF w G ps ts :=
 ⟨h.1, fun i q t a b => (h.2 i q t a b).mono hF⟩
theorem KdF.drop {w : World} {F : Nat → Prop} {ps : List Addr} {ts : List Tr} (h : KdF w F ps ts) (k : Nat) : KdF w F (ps.drop k) (ts.drop k) :=
 ⟨by simp [h.1], fun i q t a b => h.2 (k + i) q t (by simpa using a) (by simpa using b)⟩
theorem KdF.take {w : World} {F : Nat → Prop} {ps : List Addr} {ts : List Tr} (h : KdF w F ps ts) (k : Nat) : KdF w F (ps.take k) (ts.take k) := by
 refine ⟨by simp [h.1], fun i q t a b => ?_⟩
 rw [List.getElem?_take] at a b
 split at a
 ·rename_i hi; rw [if_pos hi] at b; exact h.2 i q t a b
 cases a
theorem KdF.snoc {w : World} {F : Nat → Prop} {ps : List Addr} {ts : List Tr} {p : Addr} {t : Tr} (h : KdF w F ps ts) (ht : TrF w F p t) : KdF w F (ps ++ [p]) (ts ++ [t]) := by
 refine ⟨by simp [h.1], fun i q u a b => ?_⟩
 rcases Yt a with ⟨a1, a2⟩ | ⟨a1, a2⟩
 ·rcases Yt b with ⟨b1, b2⟩ | ⟨b1, b2⟩
  ·exact h.2 i q u a2 b2
  have := h.1; omega
 rcases Yt b with ⟨b1, b2⟩ | ⟨b1, b2⟩
 ·have := h.1; omega
 subst a2 b2; exact ht
theorem Tks.one {w : World} {v : Value} {ps : List Addr} {st : List Tr} {q : Addr} {L : Nat} (h : Tks w L v ps st) (hl : (ps.length : Int) = 1) (hq : ps[0]? = some q) : ∃ t, st = [t] ∧ TrAt w L w.heap.size q t := by
 have h1 : st.length = 1 := by have := h.1; simp at this; omega
 match st, h1 with
 | [t], _ => exact ⟨t, rfl, (h.2 0 q t hq rfl).mono fun _ h => ⟨h.1, h.2.1⟩⟩
theorem Tks.len {w : World} {v : Value} {ps : List Addr} {st : List Tr} {L : Nat} (h : Tks w L v ps st) : ps.length = st.length := by have := h.1; simpa using this
end Go.KLib

namespace Go.KLib
theorem Okd.len {t : Tr} (h : Okd t) : ((t.tok.kind = 4 ∨ t.tok.kind = 5) → t.kids.length = 2) ∧ ((t.tok.kind = 6 ∨ t.tok.kind = 7) → t.kids.length = 1) ∧ (¬ (t.tok.kind = 4 ∨ t.tok.kind = 5 ∨ t.tok.kind = 6 ∨ t.tok.kind = 7) → t.kids.length = 0) := by
 have h1 := h.ar
 have h2 := Zhl (t := t.tok) (by rw [h1]; omega)
 rw [h1] at h2
 unfold arK at h2
 split at h2
 ·omega
 split at h2 <;> omega
theorem Okd.one {t : Tr} (h : Okd t) (hk : t.tok.kind = 6 ∨ t.tok.kind = 7) : ∃ k a, t = .l1 k a := by
 have := h.len.2.1 hk
 cases t with
 | l0 k => simp [Tr.kids] at this
 | l1 k a => exact ⟨k, a, rfl⟩
 | l2 k a b => simp [Tr.kids] at this
theorem Okd.zero {t : Tr} (h : Okd t) (hk : ¬ (t.tok.kind = 4 ∨ t.tok.kind = 5 ∨ t.tok.kind = 6 ∨ t.tok.kind = 7)) : ∃ k, t = .l0 k := by
 have := h.len.2.2 hk
 cases t with
 | l0 k => exact ⟨k, rfl⟩
 | l1 k a => simp [Tr.kids] at this
 | l2 k a b => simp [Tr.kids] at this
theorem Zhw {l a : List Token} {k : Token} (hl : l = a ++ [k]) : l.length = a.length + 1 := by subst hl; simp
theorem Okd.k1 {t : Tr} {l : List Token} {y : Token} (h : Okd t) (h2 : t.kids.length = 1) (ht : y = t.tok) (hl : l = t.flat) : ∃ a, t = .l1 y a ∧ Okd a ∧ l = a.flat ++ [y] ∧ l.length = a.flat.length + 1 := by
 subst ht hl
 cases t <;> simp [Tr.kids] at h2
 rename_i k a
 exact ⟨a, rfl, h.2, rfl, Zhw rfl⟩
section
variable {x a b : Tr}
end
theorem Tr.k1 {t : Tr} (h : t.kids.length = 1) : ∃ k a, t = .l1 k a := by
 cases t <;> simp [Tr.kids] at h
 exact ⟨_, _, rfl⟩
end Go.KLib

namespace Go.KLib
section
variable {P : Program} {w : World} {l : KL} {dst : Option Tmp} {ty : TypeId} {pos : String} {aft : Array Go.Edge} {gd : Option (Nat × Bool)} {x y : Operand} {ts : Array TypeId} {k k' : IntKind} {a b : Int}
end
def KdN (w : World) (L bo : Nat) (v : Value) (ps : List Addr) (ts : List Tr) : Prop := KdF w (fun b => L ≤ b ∧ b < w.heap.size ∧ b ≠ bo ∧ b ∉ bl v) ps ts
theorem KdN.nil (w : World) (L bo : Nat) (v : Value) : KdN w L bo v [] [] := ⟨rfl, fun _ _ _ h => by simp at h⟩
theorem KdN.grow {w0 w1 w2 : World} {L bo a b : Nat} {v v2 : Value} {ps : List Addr} {ts : List Tr} {q : Addr} {t : Tr} (h : KdN w0 L bo v ps ts) (hL : L ≤ w0.heap.size) (hv : ∀ g ∈ bl v, g < w0.heap.size) (hbo : bo < w0.heap.size) (c1 : Ch [] w0 w1)
   (hq : TrAt w1 a b q t) (ha : w0.heap.size ≤ a) (hb : b ≤ w1.heap.size) (c2 : Ch (bl v) w1 w2) (b2 : bl v2 = bl v ∨ bl v2 = [w1.heap.size]) : KdN w2 L bo v2 (ps ++ [q]) (ts ++ [t]) := by
 have h1 : KdF w1 (fun b => L ≤ b ∧ b < w1.heap.size ∧ b ≠ bo ∧ b ∉ bl v) ps ts := (KdF.ch h c1 (by simp)).mono fun i hi => ⟨hi.1, Nat.lt_of_lt_of_le hi.2.1 c1.size, hi.2.2⟩
 have h2 := h1.snoc (t := t) (p := q) (hq.mono fun i hi => ⟨by omega, by omega, by omega, fun hm => by have := hv i hm; omega⟩)
 have h3 := h2.ch c2 fun i hi hm => hi.2.2.2 hm
 refine h3.mono fun i hi => ⟨hi.1, Nat.lt_of_lt_of_le hi.2.1 c2.size, hi.2.2.1, fun hm => ?_⟩
 rcases b2 with e | e
 ·rw [e] at hm; exact hi.2.2.2 hm
 rw [e] at hm; have := List.mem_singleton.1 hm; omega
theorem KdN.bo {w0 w1 : World} {L bo : Nat} {v : Value} {ps : List Addr} {ts : List Tr} (h : KdN w0 L bo v ps ts) (c : Ch [bo] w0 w1) : KdN w1 L bo v ps ts :=
 (KdF.ch h c fun i hi hm => hi.2.2.1 (List.mem_singleton.1 hm)).mono fun i hi => ⟨hi.1, Nat.lt_of_lt_of_le hi.2.1 c.size, hi.2.2⟩
theorem KdN.done {w : World} {L bo e ty B : Nat} {v : Value} {ps : List Addr} {ts : List Tr} {k : Token} (h : KdN w L bo v ps ts) (hm : Blk w bo ty [.int .i64 k.kind, .int .i64 k.letter, .int .i64 k.low, .int .i64 k.high, v]) (hL : L ≤ bo)
   (hv : Ol acs e 1 w v ps) (hl : ∀ g ∈ bl v, L ≤ g) (h2 : ps.length ≤ 2) (hB : w.heap.size ≤ B) : TrAt w L B ⟨bo, 0, none⟩ (mkTr k ts) := by
 refine TrF.mk (v := v) (ps := ps) ⟨hL, Nat.lt_of_lt_of_le hm.lt hB⟩ (fun j x hx => ?_) hv.ls (fun A n c hA _ => ?_) (KdF.mono h fun i hi => ⟨hi.1, Nat.lt_of_lt_of_le hi.2.1 hB⟩) h2
 ·rw [add_lit, hm.cell]; simpa [Token.cs] using hx
 subst hA
 have hg : A.block ∈ bl (.slice (some A) n c) := by simp [bl, Value.ownBlock]
 exact ⟨hl _ hg, Nat.lt_of_lt_of_le (hv.lt _ hg) hB⟩
end Go.KLib

namespace Go.KLib
section
variable {q : Int} {x a b : Tr}
end
section
variable {e : List Token} {x : Int} {t : Tr}
end
end Go.KLib

namespace Go.KLib
section
variable {x a b : Tr} {low high : Int}
end
section
variable {e : List Token} {t : Tr}
end
theorem TrAt.mk {w : World} {L B bo e ty : Nat} {k : Token} {v : Value} {ps : List Addr} {ts : List Tr} (hm : Blk w bo ty [.int .i64 k.kind, .int .i64 k.letter, .int .i64 k.low, .int .i64 k.high, v]) (hL : L ≤ bo)
   (hv : Ol acs e 1 w v ps) (hl : ∀ g ∈ bl v, L ≤ g) (hk : Kd w L B ps ts) (h2 : ps.length ≤ 2) (hB : B ≤ w.heap.size) : TrAt w L w.heap.size ⟨bo, 0, none⟩ (mkTr k ts) := by
 refine TrF.mk (v := v) (ps := ps) ⟨hL, hm.lt⟩ (fun j x hx => ?_) hv.ls (fun A n c hA _ => ?_) ⟨hk.1, fun i q t a b => ((hk.2 i q t a b).up (Nat.le_refl _) hB)⟩ h2
 ·rw [add_lit, hm.cell]; simpa [Token.cs] using hx
 subst hA
 have hg : A.block ∈ bl (.slice (some A) n c) := by simp [bl, Value.ownBlock]
 exact ⟨hl _ hg, hv.lt _ hg⟩
end Go.KLib

namespace Go.KLib
section
variable {α : Type} {cs : α → List Value} {e k lo hi : Nat} {w w' : World} {vs : List Sv} {xs : List (List α)}
theorem Od.set {i : Nat} {v : Sv} {x x' : List α} (h : Od cs e k w lo hi vs xs) (hv : vs[i]? = some v) (hx : xs[i]? = some x) (c : Ch (bl v.v) w w') (ho : Ol cs e k w' v.v x') : Od cs e k w' lo hi vs (xs.set i x') := by
 have hi' := (List.getElem?_eq_some_iff.1 hx).1
 refine ⟨by simp [h.1], fun j u y a b => ?_, h.2.2⟩
 rw [List.getElem?_set] at b
 by_cases e1 : i = j
 ·subst e1
  rw [if_pos rfl, if_pos hi'] at b
  injection b with b; subst b
  rw [hv] at a; injection a with a; subst a
  exact ⟨ho, (h.2.1 i v x hv hx).2⟩
 rw [if_neg e1] at b
 refine ⟨(h.2.1 j u y a b).1.ch c fun g hg hm => ?_, (h.2.1 j u y a b).2⟩
 rcases Nat.lt_or_gt_of_ne e1 with h1 | h1
 ·exact h.2.2 i j v u hv a h1 g hm hg
 exact h.2.2 j i u v a hv h1 g hg hm
theorem Od.ownget (h : Od cs e k w lo hi vs xs) {i : Nat} {y : Sv} (hy : vs[i]? = some y) : ∃ x, xs[i]? = some x ∧ Ol cs e k w y.v x ∧ (∀ g ∈ bl y.v, lo ≤ g ∧ g < hi) := by
 have hi := (List.getElem?_eq_some_iff.1 hy).1
 have hx : xs[i]? = some (xs[i]'(by have := h.1; omega)) := List.getElem?_eq_getElem _
 exact ⟨_, hx, h.2.1 i y _ hy hx⟩
theorem Ql {β : Type} {l : List β} {i : Nat} {y : β} (h : l[i]? = some y) : y ∈ l := by
 obtain ⟨hi, rfl⟩ := List.getElem?_eq_some_iff.1 h; exact List.getElem_mem hi
end
section
variable {S : Int} {N : List (List Int)} {n j s k : Nat} {l : List Bool} {r : List Int} {y : Int}
def Gone (N : List (List Int)) (o : List Bool) (s : Nat) : Prop := ∀ t, Zds N s t → o[t]? = some true
theorem Gone.set {o : List Bool} {i : Nat} (h : Gone N o s) : Gone N (o.set i true) s := fun t ht => Zfp (h t ht)
end
end Go.KLib

namespace Go.KLib
section
variable {α : Type} {cs : α → List Value} {e k lo hi : Nat} {w w' : World} {vs : List Sv} {xs : List (List α)}
end
end Go.KLib

namespace Go.KLib
end Go.KLib

namespace Go.KLib
section
variable (L : List Int) (f : Int) (F wd : List Int)
end
section
variable {L : List Int} {f : Int} {F wd : List Int} {i s k : Nat} {y c x : Int}
end
end Go.KLib

namespace Go.KLib
end Go.KLib

namespace Go.KLib
theorem Od.rng {α : Type} {cs : α → List Value} {e k : Nat} {w : World} {lo hi : Nat} {vs : List Sv} {xs : List (List α)} (h : Od cs e k w lo hi vs xs) {u : Sv} (hu : u ∈ vs) {g : Nat} (hg : g ∈ bl u.v) : lo ≤ g ∧ g < hi := by
 obtain ⟨i, hi, rfl⟩ := List.getElem_of_mem hu
 obtain ⟨x, _, _, h3⟩ := h.ownget (List.getElem?_eq_getElem hi)
 exact h3 g hg
def keyE (C : List Int) (t : Int) : Int := if t < 0 then -1 else C.getD t.toNat 0
def Qo (C : List Int) (r : List Int) (c : Int) : List Int := c :: r.map (keyE C)
def rfn (C : List Int) (N : List (List Int)) : Nat → List (List Int) × List Int
 | 0 => ([], [])
 | s + 1 =>
  let p := rfn C N s
  let c := C.getD s 0
  if c < 0 then (p.1, p.2 ++ [-1])
  else if Qo C (N.getD s []) c ∈ p.1 then (p.1, p.2 ++ [(p.1.idxOf (Qo C (N.getD s []) c) : Int)])
  else (p.1 ++ [Qo C (N.getD s []) c], p.2 ++ [(p.1.length : Int)])
section
variable {C : List Int} {N : List (List Int)}
theorem Zhs {s : Nat} (h : C.getD s 0 < 0) : rfn C N (s + 1) = ((rfn C N s).1, (rfn C N s).2 ++ [-1]) := by
 show (if _ then _ else _) = _
 rw [if_pos h]
theorem Zhx {s : Nat} (h : ¬ C.getD s 0 < 0) (hk : Qo C (N.getD s []) (C.getD s 0) ∈ (rfn C N s).1) : rfn C N (s + 1) = ((rfn C N s).1, (rfn C N s).2 ++ [((rfn C N s).1.idxOf (Qo C (N.getD s []) (C.getD s 0)) : Int)]) := by
 show (if _ then _ else _) = _
 rw [if_neg h, if_pos hk]
theorem Zgl {s : Nat} (h : ¬ C.getD s 0 < 0) (hk : ¬ Qo C (N.getD s []) (C.getD s 0) ∈ (rfn C N s).1) : rfn C N (s + 1) = ((rfn C N s).1 ++ [Qo C (N.getD s []) (C.getD s 0)], (rfn C N s).2 ++ [((rfn C N s).1.length : Int)]) := by
 show (if _ then _ else _) = _
 rw [if_neg h, if_neg hk]
theorem Zbd (C : List Int) (N : List (List Int)) (s : Nat) :
   (C.getD s 0 < 0 ∧ rfn C N (s + 1) = ((rfn C N s).1, (rfn C N s).2 ++ [-1])) ∨
   (¬ C.getD s 0 < 0 ∧ Qo C (N.getD s []) (C.getD s 0) ∈ (rfn C N s).1 ∧ rfn C N (s + 1) = ((rfn C N s).1, (rfn C N s).2 ++ [((rfn C N s).1.idxOf (Qo C (N.getD s []) (C.getD s 0)) : Int)])) ∨
   (¬ C.getD s 0 < 0 ∧ ¬ Qo C (N.getD s []) (C.getD s 0) ∈ (rfn C N s).1 ∧ rfn C N (s + 1) = ((rfn C N s).1 ++ [Qo C (N.getD s []) (C.getD s 0)], (rfn C N s).2 ++ [((rfn C N s).1.length : Int)])) := by
 by_cases h : C.getD s 0 < 0
 ·exact .inl ⟨h, Zhs h⟩
 by_cases hk : Qo C (N.getD s []) (C.getD s 0) ∈ (rfn C N s).1
 ·exact .inr (.inl ⟨h, hk, Zhx h hk⟩)
 exact .inr (.inr ⟨h, hk, Zgl h hk⟩)
theorem Zed (C : List Int) (N : List (List Int)) : ∀ s, (rfn C N s).2.length = s ∧ (rfn C N s).1.length ≤ s
 | 0 => ⟨rfl, Nat.le_refl _⟩
 | s + 1 => by
  obtain ⟨h1, h2⟩ := Zed C N s
  rcases Zbd C N s with ⟨_, e⟩ | ⟨_, _, e⟩ | ⟨_, _, e⟩ <;> rw [e] <;> simp <;> omega
end
def clsD (N : List (List Int)) (D0 : List Int) (n : Nat) : Nat → List Int
 | 0 => D0
 | i + 1 => (rfn (clsD N D0 n i) N n).2
section
variable {N : List (List Int)} {D0 : List Int} {n : Nat}
end
section
variable {C : List Int} {N : List (List Int)} {s k : Nat} {r : List Int} {c t y : Int}
theorem Yo {β : Type} {l : List β} {i : Nat} {x d : β} (h : l[i]? = some x) : l.getD i d = x := by rw [List.getD_eq_getElem?_getD, h]; rfl
end
section
variable {C : List Int} {N : List (List Int)} {s : Nat} {c : Int}
end
section
variable {C : List Int} {N : List (List Int)} {s m : Nat} {c a : Int} {x : List Int}
end
def Qn (A L : List Bool) (k : Nat) : List Int := (List.range k).map fun s => if L.getD s false = false then -1 else if A.getD s false then 1 else 0
theorem Zfq (A L : List Bool) (k : Nat) : (Qn A L k).length = k := by simp [Qn]
end Go.KLib

namespace Go.KLib
open Go.ChangeShapes Go.WideShapes Go.ChangeAt Go.RowKit Go.Deep Go.Joins
structure Gv where
 v : Sv
 e : Sv
def Gv.cs (p : Gv) : List Value := [.slice p.v.A p.v.n p.v.c, .slice p.e.A p.e.n p.e.c]
theorem Gv.len (p : Gv) : p.cs.length = 2 := rfl
theorem Gv.one (x : Gv) : ∀ y ∈ x.cs, y.oneCell' = true := by intro y hy; simp [Gv.cs] at hy; rcases hy with rfl | rfl <;> rfl
structure GD where
 V : List Int
 E : List GEdge
def RdG (w : World) (L B : Nat) (vs : List Gv) (xs : List GD) : Prop :=
 vs.length = xs.length ∧ ∀ (i : Nat) (p : Gv) (x : GD), vs[i]? = some p → xs[i]? = some x → Ls ics 1 w L B p.v.v x.V ∧ Ls GEdge.cs 4 w L B p.e.v x.E
section
variable {L L' B B' : Nat} {w w' : World} {vs : List Gv} {xs : List GD} {ws : List Nat}
theorem RdG.ch (h : RdG w L B vs xs) (c : Ch ws w w') (hw : ∀ i ∈ ws, i < L ∨ B ≤ i) : RdG w' L B vs xs := ⟨h.1, fun i v x a b => ⟨(h.2 i v x a b).1.ch c hw, (h.2 i v x a b).2.ch c hw⟩⟩
theorem RdG.ch0 (h : RdG w L B vs xs) (c : Ch [] w w') : RdG w' L B vs xs := h.ch c (by simp)
theorem RdG.up (h : RdG w L B vs xs) (hL : L' ≤ L) (hB : B ≤ B') : RdG w L' B' vs xs := ⟨h.1, fun i v x a b => ⟨(h.2 i v x a b).1.up hL hB, (h.2 i v x a b).2.up hL hB⟩⟩
theorem RdG.here (h : RdG w L B vs xs) : RdG w L w.heap.size vs xs := ⟨h.1, fun i v x a b => ⟨(h.2 i v x a b).1.here (by decide), (h.2 i v x a b).2.here (by decide)⟩⟩
theorem RdG.nil : RdG w L B [] [] := ⟨rfl, fun _ _ _ h => by simp at h⟩
theorem Ol.within {α : Type} {cs : α → List Value} {e k : Nat} {w : World} {v : Value} {xs : List α} {L B L0 B0 : Nat} (h : Ol cs e k w v xs) (hl : Lo L0 v) (hh : ∀ g ∈ bl v, g < B0) (h1 : L ≤ L0) (h2 : B0 ≤ B) : Ls cs k w L B v xs := by
 have hs := h.ls
 refine ⟨hs.1, ?_⟩
 obtain ⟨A, c, hv, h3, h4, h5⟩ := hs.2
 refine ⟨A, c, hv, h3, h4, fun hp => ?_⟩
 obtain ⟨ad, ha, hat⟩ := h5 hp
 have hm : ad.block ∈ bl v := by rw [hv, ha]; simp [bl, Value.ownBlock]
 exact ⟨ad, ha, ⟨Nat.le_trans h1 (hl _ hm), Nat.lt_of_lt_of_le (hh _ hm) h2⟩, hat.2⟩
theorem RdG.snoc {p : Gv} {x : GD} (r : RdG w L B vs xs) (h1 : Ls ics 1 w L B p.v.v x.V) (h2 : Ls GEdge.cs 4 w L B p.e.v x.E) : RdG w L B (vs ++ [p]) (xs ++ [x]) := by
 refine ⟨by simp [r.1], fun i u y a b => ?_⟩
 rcases Yt a with ⟨a1, a2⟩ | ⟨a1, a2⟩
 ·rcases Yt b with ⟨b1, b2⟩ | ⟨b1, b2⟩
  ·exact r.2 i u y a2 b2
  have := r.1; omega
 rcases Yt b with ⟨b1, b2⟩ | ⟨b1, b2⟩
 ·have := r.1; omega
 subst a2 b2; exact ⟨h1, h2⟩
theorem RdG.get (h : RdG w L B vs xs) {i : Nat} {y : Gv} (hy : vs[i]? = some y) : ∃ x, xs[i]? = some x ∧ Ls ics 1 w L B y.v.v x.V ∧ Ls GEdge.cs 4 w L B y.e.v x.E := by
 have hi := (List.getElem?_eq_some_iff.1 hy).1
 have hx : xs[i]? = some (xs[i]'(by have := h.1; omega)) := List.getElem?_eq_getElem _
 exact ⟨_, hx, h.2 i y _ hy hx⟩
end
theorem RdG.at_ {w : World} {L B : Nat} {vs : List Gv} {xs : List GD} (h : RdG w L B vs xs) : vs.length = xs.length := h.1
section
variable {H : Type} {enc : TypeId × Value → H} {P : Program} {w : World} {base : Nat} {spare : Nat → Bool} {held : Bool}
end
end Go.KLib

namespace Go.KLib
section
variable {T : Type} [DecidableEq T]
variable {nx : T → Nat → T} {t0 : T} {ts : T → Bool}
end
end Go.KLib

namespace Go.KLib
open Go.Sort Go.RowKit
end Go.KLib

namespace Go.KLib
end Go.KLib

namespace Go.KLib
open Go.Sort Go.RowKit Go.Shelf Go.Proofs
section
variable {P : Program} {ρ : Ren} {w : World} {e : TypeId} {v : Value} {a : List Int}
end
end Go.KLib

namespace Go.KLib
def SepG (vs : List Gv) : Prop := ∀ u ∈ vs, ∀ t ∈ vs, ∀ g ∈ bl u.v.v, g ∉ bl t.e.v
def OdG (e1 e2 : Nat) (w : World) (lo hi : Nat) (vs : List Gv) (xs : List GD) : Prop :=
 vs.length = xs.length ∧ Od ics e1 1 w lo hi (vs.map (·.v)) (xs.map (·.V)) ∧ Od GEdge.cs e2 4 w lo hi (vs.map (·.e)) (xs.map (·.E)) ∧ SepG vs
section
variable {e1 e2 lo hi hi' : Nat} {w w' : World} {vs : List Gv} {xs : List GD} {ws : List Nat}
theorem OdG.ch (h : OdG e1 e2 w lo hi vs xs) (c : Ch ws w w') (hw : ∀ i ∈ ws, i < lo ∨ hi ≤ i) : OdG e1 e2 w' lo hi vs xs := ⟨h.1, h.2.1.ch c hw, h.2.2.1.ch c hw, h.2.2.2⟩
theorem OdG.ch0 (h : OdG e1 e2 w lo hi vs xs) (c : Ch [] w w') : OdG e1 e2 w' lo hi vs xs := h.ch c (by simp)
theorem OdG.up {lo' : Nat} (h : OdG e1 e2 w lo hi vs xs) (hl : lo' ≤ lo) (hh : hi ≤ hi') : OdG e1 e2 w lo' hi' vs xs := ⟨h.1, h.2.1.up hl hh, h.2.2.1.up hl hh, h.2.2.2⟩
theorem OdG.nil : OdG e1 e2 w lo hi [] [] := ⟨rfl, Od.nil, Od.nil, fun _ h => by cases h⟩
theorem Zbt {α β : Type} {l : List α} {f : α → β} {i : Nat} {y : α} (h : l[i]? = some y) : (l.map f)[i]? = some (f y) := by rw [List.getElem?_map, h]; rfl
theorem OdG.get (h : OdG e1 e2 w lo hi vs xs) {i : Nat} {y : Gv} (hy : vs[i]? = some y) : ∃ x, xs[i]? = some x ∧ Ol ics e1 1 w y.v.v x.V ∧ Ol GEdge.cs e2 4 w y.e.v x.E ∧ (∀ g ∈ bl y.v.v, lo ≤ g ∧ g < hi) ∧ (∀ g ∈ bl y.e.v, lo ≤ g ∧ g < hi) ∧ (∀ g ∈ bl y.v.v, g ∉ bl y.e.v) := by
 have hi := (List.getElem?_eq_some_iff.1 hy).1
 have hx : xs[i]? = some (xs[i]'(by have := h.1; omega)) := List.getElem?_eq_getElem _
 have h1 := h.2.1.2.1 i _ _ (Zbt (f := (·.v)) hy) (Zbt (f := (·.V)) hx)
 have h2 := h.2.2.1.2.1 i _ _ (Zbt (f := (·.e)) hy) (Zbt (f := (·.E)) hx)
 exact ⟨_, hx, h1.1, h2.1, h1.2, h2.2, h.2.2.2 y (Ql hy) y (Ql hy)⟩
theorem OdG.rng (h : OdG e1 e2 w lo hi vs xs) {u : Gv} (hu : u ∈ vs) : (∀ g ∈ bl u.v.v, lo ≤ g ∧ g < hi) ∧ (∀ g ∈ bl u.e.v, lo ≤ g ∧ g < hi) := by
 obtain ⟨i, hi, rfl⟩ := List.getElem_of_mem hu
 obtain ⟨x, _, _, _, r1, r2, _⟩ := h.get (List.getElem?_eq_getElem hi)
 exact ⟨r1, r2⟩
theorem OdG.snoc (h : OdG e1 e2 w lo hi vs xs) {p : Gv} {x : GD} (o1 : Ol ics e1 1 w p.v.v x.V) (o2 : Ol GEdge.cs e2 4 w p.e.v x.E) (l1 : Lo hi p.v.v) (l2 : Lo hi p.e.v) (u1 : ∀ g ∈ bl p.v.v, g < hi') (u2 : ∀ g ∈ bl p.e.v, g < hi') (hd : ∀ g ∈ bl p.v.v, g ∉ bl p.e.v) (hh : hi ≤ hi') (hlo : lo ≤ hi) : OdG e1 e2 w lo hi' (vs ++ [p]) (xs ++ [x]) := by
 refine ⟨by simp [h.1], ?_, ?_, fun u hu t ht g hg hm => ?_⟩
 ·rw [List.map_append, List.map_append]; exact h.2.1.snoc o1 l1 u1 hh hlo
 ·rw [List.map_append, List.map_append]; exact h.2.2.1.snoc o2 l2 u2 hh hlo
 rcases List.mem_append.1 hu with hu | hu <;> rcases List.mem_append.1 ht with ht | ht
 ·exact h.2.2.2 u hu t ht g hg hm
 ·rw [List.mem_singleton.1 ht] at hm
  have a := ((h.rng hu).1 g hg).2; have b := l2 g hm; omega
 ·rw [List.mem_singleton.1 hu] at hg
  have a := ((h.rng ht).2 g hm).2; have b := l1 g hg; omega
 rw [List.mem_singleton.1 hu] at hg; rw [List.mem_singleton.1 ht] at hm; exact hd g hg hm
def SepH (o : Value) (vs : List Gv) : Prop := ∀ u ∈ vs, (∀ g ∈ bl u.v.v, g ∉ bl o) ∧ ∀ g ∈ bl u.e.v, g ∉ bl o
end
end Go.KLib

namespace Go.KLib
end Go.KLib

namespace Go.KLib
theorem SepH.of {o o' : Value} {vs : List Gv} (h : SepH o vs) (e : bl o' = bl o) : SepH o' vs := fun u hu => ⟨fun g hg hm => (h u hu).1 g hg (e ▸ hm), fun g hg hm => (h u hu).2 g hg (e ▸ hm)⟩
end Go.KLib

namespace Go.KLib
open Go.MapKept
def Mp {T : Type} (kv : T → Value) (w : World) (b : Nat) (ks : List T) : Prop :=
 ∃ es clock, w.heap[b]? = some (.map es clock) ∧ es.toList.map (fun e => (e.key, e.val)) = ks.map (fun t => (kv t, Value.bool true))
section
variable {P : Program} {t : TypeId} {T : Type} [DecidableEq T] {kv : T → Value} {w w' : World} {b : Nat} {ks : List T} {ws : List Nat}
omit [DecidableEq T] in
theorem Mp.lt (h : Mp kv w b ks) : b < w.heap.size := by
 obtain ⟨es, c, hb, _⟩ := h
 rcases Nat.lt_or_ge b w.heap.size with hlt | hge
 ·exact hlt
 rw [Array.getElem?_eq_none hge] at hb; cases hb
omit [DecidableEq T] in
theorem Mp.ch (h : Mp kv w b ks) (c : Ch ws w w') (hn : b ∉ ws) : Mp kv w' b ks := by
 have hl := h.lt
 obtain ⟨es, k, hb, he⟩ := h
 exact ⟨es, k, (c.block b hl hn).trans hb, he⟩
omit [DecidableEq T] in
theorem Mp.ch0 (h : Mp kv w b ks) (c : Ch [] w w') : Mp kv w' b ks := h.ch c (by simp)
end
section
variable {P : Program} {N : Nat} {w : World} {l : KL} {dst : Option Tmp} {ty : TypeId} {pos : String} {aft : Array Edge} {gd : Option (Nat × Bool)} {K' : Value → World → Prop} {t kt et : TypeId} {T : Type} [DecidableEq T] {kv : T → Value} {b : Nat} {ks : List T}
end
structure St2 where
 a : Int
 b : Int
 deriving DecidableEq
def St2.cs (s : St2) : List Value := [.int .i64 s.a, .int .i64 s.b]
theorem St2.len (s : St2) : s.cs.length = 2 := rfl
theorem St2.one (x : St2) : ∀ y ∈ x.cs, y.oneCell' = true := by intro y hy; simp [St2.cs] at hy; rcases hy with rfl | rfl <;> rfl
section
variable {P : Program} {t : TypeId}
end
end Go.KLib

namespace Go.KLib
def val (w : List Int) : Nat := w.foldl (fun a c => 9 * a + c.toNat + 1) 0
def okW (w : List Int) : Prop := ∀ c ∈ w, 0 ≤ c ∧ c ≤ 8
theorem Zel : okW [] := fun _ h => by cases h
section
variable {T : Type} [DecidableEq T] {nx : T → Nat → T} {t0 : T} {ts : T → Bool}
def runT (nx : T → Nat → T) (t0 : T) (w : List Int) : T := w.foldl (fun t c => nx t c.toNat) t0
def Srt (E : List (T × List Int)) : Prop := E.Pairwise fun x y => val x.2 < val y.2
omit [DecidableEq T] in
theorem Srt.lt {E : List (T × List Int)} (h : Srt E) {i j : Nat} {x y : T × List Int} (hi : E[i]? = some x) (hj : E[j]? = some y) (hv : val x.2 < val y.2) : i < j := by
 obtain ⟨hi1, hi2⟩ := List.getElem?_eq_some_iff.1 hi
 obtain ⟨hj1, hj2⟩ := List.getElem?_eq_some_iff.1 hj
 rcases Nat.lt_trichotomy i j with q | q | q
 ·exact q
 ·subst q; rw [hi2] at hj2; rw [hj2] at hv; omega
 have := List.pairwise_iff_getElem.1 h j i hj1 hi1 q
 rw [hi2, hj2] at this; omega
end
end Go.KLib

namespace Go.KLib
section
variable {α : Type} [DecidableEq α]
end
end Go.KLib

namespace Go.KLib
open Go.Sort Go.RowKit Go.Shelf Go.Proofs
instance : Inhabited Pair := ⟨⟨0, 0⟩⟩
section
variable {α : Type} [Inhabited α] {cs : α → List Value} {k : Nat} {w : World} {e : TypeId} {g off cap n : Nat} {xs ys : List α}
end
instance (x y : Pair) : Decidable (Xn x y) := by unfold Xn; exact inferInstance
section
variable {P : Program} {ρ : Ren} {w : World} {e : TypeId} {v : Value} {a : List Pair}
end
end Go.KLib

namespace Go.KLib
open Go.Sort
section
variable {P : Program} {w : World} {l : KL} {dst : Option Tmp} {ty : TypeId} {pos : String} {aft : Array Go.Edge} {gd : Option (Nat × Bool)} {K : Value → World → Prop}
variable {α : Type} {cs : α → List Value} {e k : Nat} {v : Value} {xs : List α}
end
section
variable {α : Type} [DecidableEq α]
end
end Go.KLib

namespace Go.KLib
structure Qt (T : Type) where
 x : T
 s : Sv
abbrev Qs := Qt St2
abbrev Qi := Qt Int
def Qs.cs (q : Qs) : List Value := [.int .i64 q.x.a, .int .i64 q.x.b, .slice q.s.A q.s.n q.s.c]
def Qi.cs (q : Qi) : List Value := [.int .i64 q.x, .slice q.s.A q.s.n q.s.c]
theorem Qs.len (s : Qs) : (Qs.cs s).length = 3 := rfl
theorem Qi.len (s : Qi) : (Qi.cs s).length = 2 := rfl
theorem Qs.one (x : Qs) : ∀ y ∈ Qs.cs x, y.oneCell' = true := by intro y hy; simp [Qs.cs] at hy; rcases hy with rfl | rfl | rfl <;> rfl
theorem Qi.one (x : Qi) : ∀ y ∈ Qi.cs x, y.oneCell' = true := by intro y hy; simp [Qi.cs] at hy; rcases hy with rfl | rfl <;> rfl
section
variable {T : Type}
def zq (E : List (T × List Int)) (V : List Sv) : List (Qt T) := List.zipWith (fun e s => ⟨e.1, s⟩) E V
end
section
variable {T : Type} [DecidableEq T] {nx : T → Nat → T} {t0 : T} {ts : T → Bool}
end
def nxI (N : List (List Int)) (s : Int) (k : Nat) : Int := Zfy N s k
section
variable {SA SB : Int} {A B : List Bool} {N M : List (List Int)}
end
section
variable {SA SB s t : Int} {A B : List Bool} {N M : List (List Int)}
end
structure GNode where
 a : Int
 b : Int
 apart : Bool
 frm : Int
 by_ : Int
def GNode.cs (p : GNode) : List Value := [.int .i64 p.a, .int .i64 p.b, .bool p.apart, .int .i64 p.frm, .int .i64 p.by_]
theorem GNode.len (p : GNode) : p.cs.length = 5 := rfl
theorem GNode.one (x : GNode) : ∀ y ∈ x.cs, y.oneCell' = true := by intro y hy; simp [GNode.cs] at hy; rcases hy with rfl | rfl | rfl | rfl | rfl <;> rfl
section
variable {T : Type} [DecidableEq T] {nx : T → Nat → T} {t0 : T}
end
section
variable {N M : List (List Int)} {L : List GNode} {E : List (St2 × List Int)} {e : St2 × List Int} {m k : Nat} {a b fr by_ : Int}
end
section
variable {T : Type} [DecidableEq T] {nx : T → Nat → T} {t0 : T} {ts : T → Bool}
end
section
variable {SA SB s t : Int} {A B : List Bool} {N M : List (List Int)}
end
end Go.KLib

namespace Go.KLib
section
variable {t ta tb : Tr} {L F : List Int}
end
end Go.KLib

namespace Go.KLib
def grow (n : Nat) (f : Nat → Nat → Bool) (i : Nat) : List Bool := (List.range n).map (f i)
def grd (n : Nat) (f : Nat → Nat → Bool) : List (List Bool) := (List.range n).map (grow n f)
section
variable {n i j : Nat} {f g : Nat → Nat → Bool}
def idM (s : Bool) : Nat → Nat → Bool := fun i j => s && decide (i = j)
def oeM (A B : Nat → Nat → Bool) : Nat → Nat → Bool := fun i j => A i j || B i j
def mulM (n : Nat) (A B : Nat → Nat → Bool) : Nat → Nat → Bool := fun i j => (List.range n).any fun k => A i k && B k j
def Tri (A : Nat → Nat → Bool) : Prop := ∀ i j, j < i → A i j = false
theorem Tri.id (s : Bool) : Tri (idM s) := fun i j h => by simp [idM]; intro _; omega
end
section
variable {n i j k : Nat} {A B : Nat → Nat → Bool}
end
section
variable {n k : Nat} {A : Nat → Nat → Bool} {low : Int}
def powM (n : Nat) (A : Nat → Nat → Bool) : Nat → Nat → Nat → Bool
 | 0 => idM true
 | k + 1 => mulM n (powM n A k) A
def repM (n : Nat) (A : Nat → Nat → Bool) (low : Int) (k : Nat) : Nat → Nat → Bool := fun i j => (List.range k).any fun m => decide (low ≤ (m : Int)) && powM n A m i j
end
theorem Od.eq {α : Type} {cs : α → List Value} {e k : Nat} {w : World} {lo hi : Nat} {vs : List Sv} {xs ys : List (List α)} (h : Od cs e k w lo hi vs xs) (he : xs = ys) : Od cs e k w lo hi vs ys := he ▸ h
end Go.KLib

namespace Go.KLib
section
variable {n i j k m : Nat} {A : Nat → Nat → Bool} {w : List Int} {c : Int}
def ltM (c : Int) (w : List Int) : Nat → Nat → Bool := fun i j => decide (j = i + 1) && decide (w[i]? = some c)
end
def mtT (w : List Int) : Tr → Nat → Nat → Bool
 | .l0 t => if t.kind = 2 then idM true else if t.kind = 3 then ltM t.letter w else idM false
 | .l1 t x => if t.kind = 6 then repM (w.length + 1) (mtT w x) 0 (w.length + 1) else if t.kind = 7 then repM (w.length + 1) (mtT w x) t.low (t.high + 1).toNat else idM false
 | .l2 t x y => if t.kind = 4 then mulM (w.length + 1) (mtT w x) (mtT w y) else if t.kind = 5 then oeM (mtT w x) (mtT w y) else idM false
section
variable {t ta tb : Tr} {w : List Int}
end
end Go.KLib

namespace Go.KLib
def RT (w : World) (H : Nat) (b : List Nat) (wd : List Int) (vs : List Sv) (st : List Tr) : Prop :=
 vs.length = st.length ∧ ∀ (i : Nat) (v : Sv) (t : Tr), vs[i]? = some v → st.reverse[i]? = some t →
  ∃ us lo hi, Ls Sv.cs 1 w lo hi v.v us ∧ Rd bcs 1 w lo hi us (grd (wd.length + 1) (mtT wd t)) ∧ hi ≤ H ∧ ∀ g ∈ b, g < lo ∨ hi ≤ g
section
variable {w w' : World} {H H' : Nat} {b b' ws : List Nat} {wd : List Int} {vs : List Sv} {st : List Tr}
theorem RT.nil : RT w H b wd [] [] := ⟨rfl, fun _ _ _ h => by simp at h⟩
theorem RT.ch (h : RT w H b wd vs st) (c : Ch ws w w') (hw : ∀ i ∈ ws, H ≤ i ∨ i ∈ b) : RT w' H b wd vs st := ⟨h.1, fun i v t hv ht => by
 obtain ⟨us, lo, hi, h1, h2, h3, h4⟩ := h.2 i v t hv ht
 have hd : ∀ i ∈ ws, i < lo ∨ hi ≤ i := fun i hi' => by
  rcases hw i hi' with q | q
  ·right; omega
  exact h4 i q
 exact ⟨us, lo, hi, h1.ch c hd, h2.ch c hd, h3, h4⟩⟩
theorem RT.ch0 (h : RT w H b wd vs st) (c : Ch [] w w') : RT w' H b wd vs st := h.ch c (by simp)
theorem RT.get (h : RT w H b wd vs st) {i : Nat} {y : Sv} (hy : vs[i]? = some y) : ∃ t us lo hi, st.reverse[i]? = some t ∧ Ls Sv.cs 1 w lo hi y.v us ∧ Rd bcs 1 w lo hi us (grd (wd.length + 1) (mtT wd t)) ∧ hi ≤ H := by
 have hi : i < st.reverse.length := by
  have := (List.getElem?_eq_some_iff.1 hy).1
  rw [List.length_reverse]; have := h.1; omega
 obtain ⟨us, lo, hi', h1, h2, h3, _⟩ := h.2 i y _ hy (List.getElem?_eq_getElem hi)
 exact ⟨_, us, lo, hi', List.getElem?_eq_getElem hi, h1, h2, h3⟩
theorem RT.take (h : RT w H b wd vs st) {k : Nat} (hk : k ≤ st.length) : RT w H b wd (vs.take (vs.length - k)) (st.drop k) := by
 refine ⟨by rw [List.length_take, List.length_drop, h.1]; omega, fun i v t hv ht => ?_⟩
 have h9 := h.1
 rw [List.getElem?_take] at hv
 split at hv
 ·rename_i hi
  refine h.2 i v t hv ?_
  have e : st.reverse = (st.drop k).reverse ++ (st.take k).reverse := by rw [← List.reverse_append, List.take_append_drop]
  rw [e, List.getElem?_append_left (by rw [List.length_reverse, List.length_drop]; omega)]
  exact ht
 cases hv
theorem RT.add (h : RT w H b wd vs st) {v : Sv} {t : Tr} {us : List Sv} {lo hi : Nat} (h1 : Ls Sv.cs 1 w lo hi v.v us) (h2 : Rd bcs 1 w lo hi us (grd (wd.length + 1) (mtT wd t))) (h3 : hi ≤ H') (hH : H ≤ H')
   (hb : ∀ g ∈ b', g < lo ∨ hi ≤ g) (ho : ∀ g ∈ b', g ∈ b ∨ H ≤ g) : RT w H' b' wd (vs ++ [v]) (t :: st) := by
 refine ⟨by simp [h.1], fun i x u hx hu => ?_⟩
 have h9 := h.1
 rw [List.reverse_cons] at hu
 by_cases hi' : i < vs.length
 ·rw [List.getElem?_append_left hi'] at hx
  rw [List.getElem?_append_left (by rw [List.length_reverse]; omega)] at hu
  obtain ⟨us, l, r, a1, a2, a3, a4⟩ := h.2 i x u hx hu
  refine ⟨us, l, r, a1, a2, by omega, fun g hg => ?_⟩
  rcases ho g hg with q | q
  ·exact a4 g q
  right; omega
 have e : i = vs.length := by
  have := (List.getElem?_eq_some_iff.1 hx).1
  simp at this; omega
 subst e
 rw [List.getElem?_append_right (Nat.le_refl _), Nat.sub_self] at hx
 rw [List.getElem?_append_right (by rw [List.length_reverse]; omega), List.length_reverse, h9, Nat.sub_self] at hu
 simp at hx hu; subst hx hu
 exact ⟨us, lo, hi, h1, h2, h3, hb⟩
theorem RT.eq {vs' : List Sv} (h : RT w H b wd vs st) (e : vs = vs') : RT w H b wd vs' st := e ▸ h
end
section
variable {st s2 : List Tr} {y : Token} {l : List Token} {i : Nat} {t : Tr}
end
section
variable {w : List Int} {y : Token} {a b : Tr}
end
section
variable {e : List Token} {w : List Int} {t : Tr}
end
end Go.KLib

namespace Go.KLib
theorem Od.skip {α : Type} {cs : α → List Value} {e k : Nat} {w : World} {lo hi : Nat} {vs us : List Sv} {v : Sv} {xs ys : List (List α)} {x : List α} (h : Od cs e k w lo hi (vs ++ v :: us) (xs ++ x :: ys)) (hl : vs.length = xs.length) : Od cs e k w lo hi (vs ++ us) (xs ++ ys) := by
 have g1 : ∀ {β : Type} (a b : List β) (c : β) (i : Nat) (u : β), (a ++ b)[i]? = some u → (a ++ c :: b)[if i < a.length then i else i + 1]? = some u := by
  intro β a b c i u hu
  by_cases hi : i < a.length
  ·rw [if_pos hi, List.getElem?_append_left hi]; rwa [List.getElem?_append_left hi] at hu
  rw [if_neg hi, List.getElem?_append_right (by omega)]
  rw [List.getElem?_append_right (by omega)] at hu
  rw [show i + 1 - a.length = (i - a.length) + 1 by omega, List.getElem?_cons_succ]; exact hu
 refine ⟨by have := h.1; simp at this ⊢; omega, fun i v' x' a b => ?_, fun i j u u' a b hij => ?_⟩
 ·have a' := g1 _ _ v _ _ a
  have b' := g1 _ _ x _ _ b
  rw [← hl] at b'
  exact h.2.1 _ _ _ a' b'
 have a' := g1 _ _ v _ _ a
 have b' := g1 _ _ v _ _ b
 exact h.2.2 _ _ _ _ a' b' (by split <;> split <;> omega)
theorem Zeb {α : Type} {l : List α} {i : Nat} {y : α} (h : l[i]? = some y) : l.drop i = y :: l.drop (i + 1) := by
 obtain ⟨hi, e⟩ := List.getElem?_eq_some_iff.1 h
 rw [List.drop_eq_getElem_cons hi, e]
theorem Od.app {α : Type} {cs : α → List Value} {e k : Nat} {w : World} {lo hi lo2 hi2 : Nat} {vs us : List Sv} {xs ys : List (List α)} (h : Od cs e k w lo hi vs xs) (h2 : Od cs e k w lo2 hi2 us ys) (hh : hi ≤ lo2) (hl : lo ≤ lo2) (hu : hi ≤ hi2) : Od cs e k w lo hi2 (vs ++ us) (xs ++ ys) := by
 have h9 := h.1
 have k9 := h2.1
 refine ⟨by simp [h9, k9], fun i v x a b => ?_, fun i j u v a b hij => ?_⟩
 ·by_cases hi' : i < vs.length
  ·rw [List.getElem?_append_left hi'] at a
   rw [List.getElem?_append_left (by omega)] at b
   obtain ⟨o, r⟩ := h.2.1 i v x a b
   exact ⟨o, fun g hg => by have := r g hg; omega⟩
  rw [List.getElem?_append_right (by omega)] at a
  rw [List.getElem?_append_right (by omega)] at b
  rw [h9] at a
  obtain ⟨o, r⟩ := h2.2.1 _ v x a b
  exact ⟨o, fun g hg => by have := r g hg; omega⟩
 by_cases hi' : i < vs.length
 ·rw [List.getElem?_append_left hi'] at a
  by_cases hj : j < vs.length
  ·rw [List.getElem?_append_left hj] at b
   exact h.2.2 i j u v a b hij
  rw [List.getElem?_append_right (by omega)] at b
  intro g hg hm
  have r1 := h.rng (List.mem_of_getElem? a) hg
  have r2 := h2.rng (List.mem_of_getElem? b) hm
  omega
 rw [List.getElem?_append_right (by omega)] at a
 rw [List.getElem?_append_right (by omega)] at b
 exact h2.2.2 _ _ u v a b (by omega)
section
variable {L : List Int} {t : Tr} {W : List (List Int)} {P : List Int → Bool} {y : List Int} {i j k m : Nat}
end
end Go.KLib

namespace Go.KLib
def bst (l : List UInt8) : Value := .string ⟨l.toArray⟩
def bys (l : List UInt8) : ByteArray := ⟨l.toArray⟩
theorem Xh (l : List UInt8) : bst l = .string (bys l) := rfl
theorem Zdb (l : List UInt8) : (bys l).toList = l := ByteArray.toList_mk l
theorem Zfo (l : List UInt8) : (bys l).size = l.length := rfl
def scs (s : List UInt8) : List Value := [bst s]
theorem Xc (s : List UInt8) : (scs s).length = 1 := rfl
theorem Zcs (s : List UInt8) : ∀ v ∈ scs s, v.oneCell' = true := fun v hv => by rw [List.mem_singleton.1 hv]; rfl
def ucs (n : Int) : List Value := [.int .u8 n]
def bat (s : List UInt8) (i : Nat) : Int := ((s.getD i 0).toNat : Int)
theorem Ys (s : List UInt8) (i : Nat) : 0 ≤ bat s i ∧ bat s i ≤ 255 := by
 have := (s.getD i 0).toNat_lt
 unfold bat; omega
theorem Xb (s : List UInt8) (i : Nat) : -9223372036854775808 ≤ bat s i ∧ bat s i ≤ 9223372036854775807 := by have := Ys s i; omega
section
variable {P : Program} {w : World} {l : KL} {dst : Option Tmp} {ty : TypeId} {pos : String} {aft : Array Go.Edge} {gd : Option (Nat × Bool)} {x y z : Operand} {xt yt : TypeId} {a b : Int} {k : IntKind} {s t : List UInt8}
theorem Zhh (h : s.length + t.length ≤ 9223372036854775807) (hx : ev l x = some (bst s)) (hy : ev l y = some (bst t)) : Yg P l ⟨dst, .binOp .add xt x y yt, ty, pos, aft, gd⟩ w (bst (s ++ t)) w := fun ρ hρ => by
 have e := run_string_add_sum (P := P) w (bys s) (bys t) h
 rw [show bys s ++ bys t = bys (s ++ t) from ByteArray.mk_append_mk s t] at e
 rw [Xh] at hx hy
 simp [execOp, hρ _ _ hx, hρ _ _ hy, eqGuard, binOp, e, Xh]
theorem Zft (hx : ev l x = some (bst s)) (hy : ev l y = some (bst t)) : Yg P l ⟨dst, .binOp .eql xt x y yt, ty, pos, aft, gd⟩ w (.bool (decide (s = t))) w := fun ρ hρ => by
 have e : (s == t) = decide (s = t) := by by_cases h : s = t <;> simp [h]
 rw [Xh] at hx hy
 simp [execOp, hρ _ _ hx, hρ _ _ hy, eqGuard, binOp, Op.stringOp, Zdb, e]
theorem Zhk (hx : ev l x = some (bst s)) (hy : ev l y = some (bst t)) : Yg P l ⟨dst, .binOp .neq xt x y yt, ty, pos, aft, gd⟩ w (.bool (!decide (s = t))) w := fun ρ hρ => by
 have e : (s == t) = decide (s = t) := by by_cases h : s = t <;> simp [h]
 rw [Xh] at hx hy
 simp [execOp, hρ _ _ hx, hρ _ _ hy, eqGuard, binOp, Op.stringOp, Zdb, e]
theorem Zcw {t : TypeId} (ht : P.underlying t = some .string) (h : ev l x = some (bst s)) :
   Yg P l ⟨dst, .call { callee := .builtin .len, args := #[x], argTypes := #[t] }, ty, pos, aft, gd⟩ w (.int .i64 s.length) w := fun ρ hρ => by
 rw [Xh] at h
 simp [execOp, resolve, invoke, builtin, Builtin.len_, run_underlying ht, hρ _ _ h, goInt, Zfo]
theorem Yf {t : TypeId} {i : Int} (h0 : 0 ≤ i ∧ i < s.length) (ht : P.underlying t = some .string) (hx : ev l x = some (bst s)) (hy : ev l y = some (.int k i)) :
   Yg P l ⟨dst, .index t x y, ty, pos, aft, gd⟩ w (.int .u8 (bat s i.toNat)) w := fun ρ hρ => by
 have e := run_index_string (P := P) w t (bys s) k i ht
 rw [dif_pos (show 0 ≤ i ∧ i < ((bys s).size : Int) from h0)] at e
 have hlt : i.toNat < s.length := by omega
 have e2 : (bys s)[i.toNat]'(by show i.toNat < s.length; exact hlt) = s.getD i.toNat 0 := by
  show s.toArray[i.toNat]'(by simpa using hlt) = _
  simp [List.getD_eq_getElem?_getD, hlt]
 rw [Xh] at hx
 rw [e2] at e
 simp [execOp, hρ _ _ hx, hρ _ _ hy, e, bat]
theorem Zhi {t : TypeId} {i j : Int} {k' : IntKind} (h0 : 0 ≤ i ∧ i ≤ j ∧ j ≤ s.length) (ht : P.underlying t = some .string) (hx : ev l x = some (bst s)) (hy : ev l y = some (.int k i)) (hz : ev l z = some (.int k' j)) :
   Yg P l ⟨dst, .slice t x (some y) (some z) none, ty, pos, aft, gd⟩ w (bst ((s.drop i.toNat).take (j.toNat - i.toNat))) w := fun ρ hρ => by
 have e := run_slice_string (P := P) w t (bys s) k k' i j ht h0.1 h0.2.1 h0.2.2
 rw [show (bys s).extract i.toNat j.toNat = bys ((s.drop i.toNat).take (j.toNat - i.toNat)) from ByteArray.extract_mk s _ _] at e
 rw [Xh] at hx
 simp [execOp, hρ _ _ hx, hρ _ _ hy, hρ _ _ hz, Instr.sliceAt, run_underlying ht, e, Xh]
theorem Zgx {t : TypeId} {i : Int} (h0 : 0 ≤ i ∧ i ≤ s.length) (ht : P.underlying t = some .string) (hx : ev l x = some (bst s)) (hy : ev l y = some (.int k i)) :
   Yg P l ⟨dst, .slice t x (some y) none none, ty, pos, aft, gd⟩ w (bst (s.drop i.toNat)) w := fun ρ hρ => by
 have e := run_slice_string_l (P := P) w t (bys s) ht k i h0.1 h0.2
 rw [show (bys s).extract i.toNat (bys s).size = bys (s.drop i.toNat) from by
  rw [show (bys s).extract i.toNat (bys s).size = bys ((s.drop i.toNat).take (s.length - i.toNat)) from ByteArray.extract_mk s _ _, List.take_of_length_le (by simp)]] at e
 rw [Xh] at hx
 simp [execOp, hρ _ _ hx, hρ _ _ hy, Instr.sliceAt, run_underlying ht, e, Xh]
end
end Go.KLib

namespace Go.KLib
open Go.Sort Go.RowKit Go.Shelf Go.Proofs
section
variable {B : Nat → Prop} {S : Int} {N : List (List Int)} {n j s k f : Nat} {l : List Bool} {r : List Int} {y : Int}
end
section
variable {S : Int} {A : List Bool} {N : List (List Int)} {us : List Int} {i : Nat} {y : Int}
end
end Go.KLib

namespace Go.KLib
def Cu (w : World) (b : Nat) : Prop := ∃ (v : Value) (xs : List Int) (t : TypeId) (i h : Int), Blk w b t [v, .int .i64 i, .int .i64 h] ∧ Ls ucs 1 w 0 b v xs ∧ 0 ≤ i ∧ i ≤ xs.length
theorem Cu.lt {w : World} {b : Nat} (h : Cu w b) : b < w.heap.size := by obtain ⟨_, _, _, _, _, h, _⟩ := h; exact h.lt
theorem Cu.ch {w w' : World} {b : Nat} {ws : List Nat} (h : Cu w b) (c : Ch ws w w') (hw : ∀ i ∈ ws, b < i) : Cu w' b := by
 obtain ⟨v, xs, t, i, k, h1, h2, h3⟩ := h
 exact ⟨v, xs, t, i, k, h1.ch c (fun hm => by have := hw _ hm; omega), Sl.ch h2 c (fun j hj => .inr (by have := hw _ hj; omega)), h3⟩
theorem Cu.ch0 {w w' : World} {b : Nat} (h : Cu w b) (c : Ch [] w w') : Cu w' b := h.ch c (fun _ hm => by cases hm)
def Zj : List UInt8 → Int → List UInt8 → List (List UInt8)
 | [], _, cur => [cur]
 | c :: s, sep, cur => if (c.toNat : Int) = sep then cur :: Zj s sep [] else Zj s sep (cur ++ [c])
theorem Qj : ∀ (s : List UInt8) (sep : Int) (cur : List UInt8), (Zj s sep cur).length ≤ s.length + 1
 | [], _, _ => by simp [Zj]
 | c :: s, sep, cur => by
  unfold Zj; split
  ·have := Qj s sep []; simp; omega
  have := Qj s sep (cur ++ [c]); simp; omega
theorem Zeg {s : List UInt8} {i : Nat} (h : i < s.length) : ∃ c, s[i]? = some c ∧ bat s i = (c.toNat : Int) := ⟨s[i], List.getElem?_eq_getElem h, by unfold bat; rw [List.getD_eq_getElem?_getD, List.getElem?_eq_getElem h]; rfl⟩
theorem Zen {s : List UInt8} {sep : Int} {i f : Nat} {out : List (List UInt8)} (h : out ++ Zj (s.drop i) sep ((s.drop f).take (i - f)) = Zj s sep []) (hi : i < s.length) (hc : bat s i = sep) :
   (out ++ [(s.drop f).take (i - f)]) ++ Zj (s.drop (i + 1)) sep ((s.drop (i + 1)).take (i + 1 - (i + 1))) = Zj s sep [] := by
 obtain ⟨c, h1, h2⟩ := Zeg hi
 rw [← h, Zeb h1]
 show _ = out ++ (if (c.toNat : Int) = sep then _ else _)
 rw [if_pos (by omega)]
 simp
theorem Zdf {s : List UInt8} {sep : Int} {i f : Nat} {out : List (List UInt8)} (h : out ++ Zj (s.drop i) sep ((s.drop f).take (i - f)) = Zj s sep []) (hi : i < s.length) (hf : f ≤ i) (hc : ¬ bat s i = sep) :
   out ++ Zj (s.drop (i + 1)) sep ((s.drop f).take (i + 1 - f)) = Zj s sep [] := by
 obtain ⟨c, h1, h2⟩ := Zeg hi
 rw [← h, Zeb h1]
 show _ = out ++ (if (c.toNat : Int) = sep then _ else _)
 rw [if_neg (by omega), show i + 1 - f = (i - f) + 1 by omega]
 congr 2
 rw [Zbb (xs := s.drop f) (by rw [List.getElem?_drop, show f + (i - f) = i by omega]; exact h1)]
theorem Zgw {s : List UInt8} {sep : Int} {i f : Nat} {out : List (List UInt8)} (h : out ++ Zj (s.drop i) sep ((s.drop f).take (i - f)) = Zj s sep []) (hi : s.length ≤ i) : out ++ [s.drop f] = Zj s sep [] := by
 rw [← h, List.drop_of_length_le hi, Zj, List.take_of_length_le (by rw [List.length_drop]; omega)]
theorem Zfl {s : List UInt8} {sep : Int} : ([] : List (List UInt8)) ++ Zj (s.drop 0) sep ((s.drop 0).take (0 - 0)) = Zj s sep [] := by simp
def dgF : Nat → Nat → List UInt8
 | 0, _ => []
 | f + 1, n => if n = 0 then [] else dgF f (n / 10) ++ [UInt8.ofNat (48 + n % 10)]
theorem Zef : ∀ f n, (dgF f n).length ≤ f
 | 0, _ => by simp [dgF]
 | f + 1, n => by
  unfold dgF; split
  ·simp
  have := Zef f (n / 10); simp; omega
def Qm (n : Int) : List UInt8 := if n = 0 then [48] else if n < 0 then 45 :: dgF 20 n.natAbs else dgF 20 n.natAbs
theorem Zau (n : Int) : (Qm n).length ≤ 21 := by
 have := Zef 20 n.natAbs
 unfold Qm; split
 ·simp
 split
 ·simp; omega
 omega
theorem Yn {α β : Type} {f : α → β} {l : List α} {i : Nat} {y : α} (h : l[i]? = some y) : (l.take i).map f ++ [f y] = (l.take (i + 1)).map f := by rw [Zbb h, List.map_append]; rfl
end Go.KLib

namespace Go.KLib
section
variable {P : Program} {w : World} {l : KL} {dst : Option Tmp} {ty : TypeId} {pos : String} {aft : Array Go.Edge} {gd : Option (Nat × Bool)} {x y : Operand} {xt yt : TypeId} {a b : Int} {k : IntKind}
end
end Go.KLib

namespace Go.KLib
open Go.ChangeShapes Go.WideShapes Go.ChangeAt Go.RowKit Go.Deep Go.Joins
section
variable {H : Type} {enc : TypeId × Value → H} {P : Program} {w : World} {base : Nat} {spare : Nat → Bool} {held : Bool}
end
end Go.KLib

namespace Go.KLib
def Pw (L : List Int → Prop) : Nat → List Int → Prop
 | 0, w => w = []
 | k + 1, w => ∃ u v, w = u ++ v ∧ Pw L k u ∧ L v
def Lg : Tr → List Int → Prop
 | .l0 t => fun w => if t.kind = 2 then w = [] else if t.kind = 3 then w = [t.letter] else False
 | .l1 t x => fun w => if t.kind = 6 then ∃ k, Pw (Lg x) k w else if t.kind = 7 then ∃ k : Nat, t.low ≤ (k : Int) ∧ (k : Int) ≤ t.high ∧ Pw (Lg x) k w else False
 | .l2 t x y => fun w => if t.kind = 4 then ∃ u v, w = u ++ v ∧ Lg x u ∧ Lg y v else if t.kind = 5 then Lg x w ∨ Lg y w else False
section
variable {w : List Int} {i j k n : Nat} {A B : Nat → Nat → Bool} {L M : List Int → Prop}
end
section
variable {L M : List Int → Prop} {w u v : List Int} {k m : Nat}
theorem Pw.app (h : Pw L k u) : ∀ {m : Nat} {v : List Int}, Pw L m v → Pw L (k + m) (u ++ v)
 | 0, v, h2 => by rw [show v = [] from h2, List.append_nil]; exact h
 | m + 1, v, ⟨a, b, e, h2, h3⟩ => ⟨u ++ a, b, by rw [e, List.append_assoc], h.app h2, h3⟩
theorem Pw.one : Pw L 1 w ↔ L w := ⟨fun ⟨a, b, e, h, k⟩ => by rw [e, show a = [] from h]; exact k, fun h => ⟨[], w, rfl, rfl, h⟩⟩
theorem Pw.cons (h : L u) (k1 : Pw L k v) : Pw L (k + 1) (u ++ v) := by
 have := (Pw.one.2 h).app k1
 rwa [Nat.add_comm 1 k] at this
theorem Pw.nil (h : L []) : ∀ k, Pw L k []
 | 0 => rfl
 | k + 1 => ⟨[], [], rfl, Pw.nil h k, h⟩
theorem Pw.uncons : ∀ {k : Nat} {w : List Int}, Pw L (k + 1) w → ∃ u v, w = u ++ v ∧ L u ∧ Pw L k v
 | 0, w, h => ⟨w, [], by simp, Pw.one.1 h, rfl⟩
 | k + 1, w, ⟨a, b, e, h, h2⟩ => by
  obtain ⟨u, v, e2, h3, h4⟩ := Pw.uncons h
  exact ⟨u, v ++ b, by rw [e, e2, List.append_assoc], h3, v, b, rfl, h4, h2⟩
theorem Pw.mono (h : ∀ w, L w → M w) : ∀ {k : Nat} {w : List Int}, Pw L k w → Pw M k w
 | 0, _, h1 => h1
 | _ + 1, _, ⟨a, b, e, h1, h2⟩ => ⟨a, b, e, h1.mono h, h b h2⟩
theorem Pw.first {x : Int} : ∀ {k : Nat} {w : List Int}, Pw L k (x :: w) → ∃ u v m, w = u ++ v ∧ L (x :: u) ∧ Pw L m v ∧ m + 1 ≤ k ∧ (m + 1 = k ∨ L [])
 | 0, w, h => by cases h
 | k + 1, w, h => by
  obtain ⟨u, v, e, h1, h2⟩ := Pw.uncons h
  cases u with
  | nil =>
   simp only [List.nil_append] at e; subst e
   obtain ⟨u, v, m, e, a, b, c, _⟩ := Pw.first h2
   exact ⟨u, v, m, e, a, b, by omega, .inr h1⟩
  | cons y u =>
   simp only [List.cons_append, List.cons.injEq] at e
   obtain ⟨rfl, e⟩ := e
   exact ⟨u, v, k, e, h1, h2, Nat.le_refl _, .inl rfl⟩
end
def Ex (e : List Token) (L : List Int → Prop) : Prop := ∃ t, Okd t ∧ e = t.flat ∧ ∀ w, Lg t w ↔ L w
section
variable {a b : List Token} {L M N : List Int → Prop}
theorem Ex.of {t : Tr} (h : Okd t) : Ex t.flat (Lg t) := ⟨t, h, rfl, fun _ => Iff.rfl⟩
theorem Ex.single {t : Token} (h : Ex a L) (hl : a = [t]) : arT t = 0 ∧ ∀ w, L w ↔ Lg (.l0 t) w := by
 obtain ⟨x, h1, h2, h3⟩ := h
 rw [hl] at h2
 cases x with
 | l0 y =>
  simp only [Tr.flat, List.cons.injEq, and_true] at h2
  subst h2
  exact ⟨h1, fun w => (h3 w).symm⟩
 | l1 y q =>
  have := congrArg List.length h2
  rw [Tr.flat_len] at this
  have := q.sz_pos
  simp [Tr.sz] at *; omega
 | l2 y q r =>
  have := congrArg List.length h2
  rw [Tr.flat_len] at this
  have := q.sz_pos
  have := r.sz_pos
  simp [Tr.sz] at *; omega
theorem Zhr {e : List Token} {k : Int} (h : isK e k = true) : ∃ y, e = [y] ∧ y.kind = k := by
 unfold isK at h
 simp only [decide_eq_true_eq] at h
 obtain ⟨h1, h2⟩ := h
 match e, h1 with
 | [y], _ => exact ⟨y, rfl, h2⟩
theorem Ex.k1 (h : Ex a L) (hk : isK a 1 = true) : ∀ w, ¬ L w := fun w hw => by
 obtain ⟨y, rfl, hy⟩ := Zhr hk
 have := (h.single rfl).2 w
 rw [this] at hw
 simp [Lg, hy] at hw
end
section
variable {e a b : List Token} {L M : List Int → Prop} {w : List Int}
end
end Go.KLib

namespace Go.KLib
section
variable {e : List Token} {n : Int} {w u : List Int} {i : Nat}
end
end Go.KLib

namespace Go.KLib
def Rn (E : Nat → Nat → Prop) (La : Nat → Int → Prop) : Nat → List Int → Nat → Prop
 | p, [], q => p = q
 | p, c :: w, q => ∃ r, E p r ∧ La r c ∧ Rn E La r w q
section
variable {E E' Ex Ey : Nat → Nat → Prop} {La : Nat → Int → Prop} {f l fx lx fy ly sx : Nat → Prop} {n nx ny : Prop} {p q r : Nat} {u v w : List Int}
theorem Rn.app : ∀ {u : List Int} {p : Nat}, Rn E La p u q → Rn E La q v r → Rn E La p (u ++ v) r
 | [], p, h, k => by rw [show p = q from h]; exact k
 | c :: u, p, ⟨s, a, b, h⟩, k => ⟨s, a, b, h.app k⟩
theorem Rn.mono (h : ∀ p q, E p q → E' p q) : ∀ {w : List Int} {p : Nat}, Rn E La p w q → Rn E' La p w q
 | [], _, e => e
 | _ :: _, _, ⟨s, a, b, k⟩ => ⟨s, h _ _ a, b, k.mono h⟩
end
end Go.KLib

namespace Go.KLib
def bt (m : Int) (p : Nat) : Prop := m.toNat.testBit p = true
instance {m : Int} {p : Nat} : Decidable (bt m p) := inferInstanceAs (Decidable (_ = true))
def okm (m : Int) (n : Nat) : Prop := 0 ≤ m ∧ m.toNat < 2 ^ n
section
variable {a b m l f : Int} {n k p q s : Nat} {F L : List Int}
theorem okm.up (h : okm m n) (hn : n ≤ k) : okm m k := ⟨h.1, Nat.lt_of_lt_of_le h.2 (Nat.pow_le_pow_right (by decide) hn)⟩
end
end Go.KLib

namespace Go.KLib
end Go.KLib

namespace Go.KLib
section
variable {a zs : List (List Int)} {i j : Nat} {x y : List Int} {k kk : Int}
end
section
variable {a : List (List Int)} {i : Nat} {k kk : Int}
end
end Go.KLib

namespace Go.KLib
section
variable {a b m set nx c last f : Int} {n k p q s : Nat} {F L : List Int} {nl : Bool}
variable {l : Int} {w : List Int}
theorem Rn.snoc {E : Nat → Nat → Prop} {La : Nat → Int → Prop} : ∀ {v : List Int} {p : Nat}, Rn E La p (v ++ [c]) q ↔ ∃ j, Rn E La p v j ∧ E j q ∧ La q c
 | [], p => ⟨fun ⟨r, h1, h2, h3⟩ => by rw [show r = q from h3] at h1 h2; exact ⟨p, rfl, h1, h2⟩, fun ⟨j, h1, h2, h3⟩ => by rw [show p = j from h1]; exact ⟨q, h2, h3, rfl⟩⟩
 | d :: v, p => by
  constructor
  ·rintro ⟨r, h1, h2, h3⟩
   obtain ⟨j, h4, h5⟩ := Rn.snoc.1 h3
   exact ⟨j, ⟨r, h1, h2, h4⟩, h5⟩
  rintro ⟨j, ⟨r, h1, h2, h4⟩, h5⟩
  exact ⟨r, h1, h2, Rn.snoc.2 ⟨j, h4, h5⟩⟩
end
end Go.KLib

namespace Go.KLib
section
variable {w : List Int} {x t : Tr} {e : List Token}
theorem Pw.congr {L M : List Int → Prop} (h : ∀ w, L w ↔ M w) {k : Nat} : Pw L k w ↔ Pw M k w := ⟨Pw.mono fun w => (h w).1, Pw.mono fun w => (h w).2⟩
end
end Go.KLib

namespace Go.KLib
section
variable {S : Int} {A : List Bool} {N : List (List Int)} {C : List Int} {s t n : Nat}
theorem Qd {T : Type} (nx : T → Nat → T) (t0 : T) (c : Int) (v : List Int) : runT nx t0 (c :: v) = runT nx (nx t0 c.toNat) v := rfl
theorem Zbw {c : Int} {v : List Int} : okW (c :: v) ↔ (0 ≤ c ∧ c ≤ 8) ∧ okW v :=
 ⟨fun h => ⟨h c (List.mem_cons_self ..), fun x hx => h x (List.mem_cons_of_mem _ hx)⟩, fun h x hx => by
  rcases List.mem_cons.1 hx with e | e
  ·rw [e]; exact h.1
  exact h.2 x e⟩
theorem Zfr {x : Int} (h : x < 0) (k : Nat) : nxI N x k = -1 := by unfold nxI Zfy; rw [if_pos (.inl h)]
theorem Zbs : ∀ (v : List Int) (x : Int), x < 0 → Xo A (runT (nxI N) x v) = false
 | [], x, h => by show Xo A x = false; exact (Zhp (by omega)).symm
 | c :: v, x, h => by rw [Qd, Zfr h]; exact Zbs v (-1) (by omega)
theorem Zdw {x : Int} (hx : 0 ≤ x) {k : Nat} (hk : k ≤ 8) : nxI N x k = (N.getD x.toNat []).getD k 0 := by
 unfold nxI Zfy; rw [if_neg (by omega)]; rfl
theorem Zdx (h : Qz S A N) (hs : s < A.length) {k : Nat} (hk : k ≤ 8) : ∃ r, N[s]? = some r ∧ r[k]? = some (nxI N s k) := by
 have hN := h.2.2.1
 have hr : N[s]? = some (N[s]'(by omega)) := List.getElem?_eq_getElem _
 have hl := (Zat h.2 hr).1
 refine ⟨_, hr, ?_⟩
 rw [Zdw (Int.natCast_nonneg s) hk, Int.toNat_natCast, Yo hr, List.getD_eq_getElem?_getD, List.getElem?_eq_getElem (by omega)]
 rfl
theorem Zdy (h : Qz S A N) (hs : s < A.length) {k : Nat} (hk : k ≤ 8) : -1 ≤ nxI N s k ∧ nxI N s k ≤ (A.length : Int) - 1 := by
 obtain ⟨r, h1, h2⟩ := Zdx h hs hk
 exact Zgm h.2 h1 h2
theorem Zcx {s : Nat} : Xo A (s : Int) = A.getD s false := by unfold Xo; simp
theorem Zgh (h : Qz S A N) : ∀ {s : Nat}, Cl (Zfb A) (Zds N) s → ∃ v, okW v ∧ Xo A (runT (nxI N) (s : Int) v) = true := fun hc => by
 induction hc with
 | @base s hb => exact ⟨[], Zel, by show Xo A (s : Int) = true; rw [Zcx]; exact Yo hb⟩
 | @step s t he hk ih =>
  obtain ⟨v, hv, ha⟩ := ih
  obtain ⟨i, r, h1, h2⟩ := he
  have hl := (Zat h.2 h1).1
  have hi := (List.getElem?_eq_some_iff.1 h2).1
  have hN := h.2.2.1
  have hs := (List.getElem?_eq_some_iff.1 h1).1
  obtain ⟨r', h3, h4⟩ := Zdx h (s := s) (by omega) (k := i) (by omega)
  rw [h1] at h3; injection h3 with h3; subst h3
  rw [h2] at h4; injection h4 with h4
  exact ⟨(i : Int) :: v, Zbw.2 ⟨by omega, hv⟩, by rw [Qd, Int.toNat_natCast, ← h4]; exact ha⟩
theorem Zea (h : Qz S A N) : ∀ (v : List Int) (s : Nat), s < A.length → okW v → Xo A (runT (nxI N) (s : Int) v) = true → Cl (Zfb A) (Zds N) s
 | [], s, hs, _, ha => by
  have e : Xo A (s : Int) = true := ha
  rw [Zcx] at e
  refine .base ?_
  show A[s]? = some true
  rw [List.getD_eq_getElem?_getD, List.getElem?_eq_getElem hs] at e
  rw [List.getElem?_eq_getElem hs]; exact congrArg some e
 | c :: v, s, hs, hv, ha => by
  rw [Zbw] at hv
  rw [Qd] at ha
  have hk : c.toNat ≤ 8 := by omega
  obtain ⟨r, h1, h2⟩ := Zdx h hs hk
  have hr := Zdy h hs hk
  rcases Int.lt_or_le (nxI N s c.toNat) 0 with hn | hn
  ·rw [Zbs v _ hn] at ha; cases ha
  obtain ⟨t, e⟩ := Int.eq_ofNat_of_zero_le hn
  rw [e] at ha h2
  exact .step ⟨_, r, h1, h2⟩ (Zea h v t (by omega) hv.2 ha)
theorem Zbz (h : Qz S A N) (hs : s < A.length) : (Yj A N).getD s false = true ↔ ∃ v, okW v ∧ Xo A (runT (nxI N) (s : Int) v) = true := by
 have e : (Yj A N).getD s false = tt (Cl (Zfb A) (Zds N) s) := by unfold Yj; exact Yo (Zgi hs)
 rw [e, Zao]
 exact ⟨Zgh h, fun ⟨v, h1, h2⟩ => Zea h v s hs h1 h2⟩
theorem Zcg (C : List Int) (N : List (List Int)) : ∀ m s, s < m → (C.getD s 0 < 0 → (rfn C N m).2[s]? = some (-1)) ∧
   (¬ C.getD s 0 < 0 → Qo C (N.getD s []) (C.getD s 0) ∈ (rfn C N m).1 ∧ (rfn C N m).2[s]? = some ((rfn C N m).1.idxOf (Qo C (N.getD s []) (C.getD s 0)) : Int))
 | 0, _, h => absurd h (by omega)
 | m + 1, s, h => by
  have hl := (Zed C N m).1
  by_cases e : s = m
  ·subst e
   rcases Zbd C N s with ⟨h1, e⟩ | ⟨h1, hk, e⟩ | ⟨h1, hk, e⟩ <;> rw [e]
   ·refine ⟨fun _ => ?_, fun q => absurd h1 q⟩
    simp [List.getElem?_append, hl]
   ·refine ⟨fun q => absurd q h1, fun _ => ⟨hk, ?_⟩⟩
    simp [List.getElem?_append, hl]
   refine ⟨fun q => absurd q h1, fun _ => ⟨by simp, ?_⟩⟩
   rw [List.idxOf_append, if_neg hk, List.getElem?_append_right (by omega), hl]
   simp
  have ih := Zcg C N m s (by omega)
  have g : ∀ x, ((rfn C N m).2 ++ [x])[s]? = (rfn C N m).2[s]? := fun x => List.getElem?_append_left (by omega)
  rcases Zbd C N m with ⟨h1, e⟩ | ⟨h1, hk, e⟩ | ⟨h1, hk, e⟩ <;> rw [e] <;> simp only [g]
  ·exact ih
  ·exact ih
  refine ⟨ih.1, fun q => ?_⟩
  obtain ⟨a, b⟩ := ih.2 q
  exact ⟨List.mem_append_left _ a, by rw [b, List.idxOf_append, if_pos a]⟩
theorem Zcq (hs : s < n) : (rfn C N n).2.getD s 0 < 0 ↔ C.getD s 0 < 0 := by
 have h := Zcg C N n s hs
 by_cases e : C.getD s 0 < 0
 ·rw [Yo (h.1 e)]; exact ⟨fun _ => e, fun _ => by omega⟩
 rw [Yo (h.2 e).2]; exact ⟨fun q => by omega, fun q => absurd q e⟩
theorem Zem (hs : s < n) (ht : t < n) : (rfn C N n).2.getD s 0 = (rfn C N n).2.getD t 0 ↔ (C.getD s 0 < 0 ∧ C.getD t 0 < 0) ∨ (¬ C.getD s 0 < 0 ∧ ¬ C.getD t 0 < 0 ∧ Qo C (N.getD s []) (C.getD s 0) = Qo C (N.getD t []) (C.getD t 0)) := by
 have h := Zcg C N n s hs
 have g := Zcg C N n t ht
 by_cases e : C.getD s 0 < 0 <;> by_cases f : C.getD t 0 < 0
 ·rw [Yo (h.1 e), Yo (g.1 f)]; exact ⟨fun _ => .inl ⟨e, f⟩, fun _ => rfl⟩
 ·rw [Yo (h.1 e), Yo (g.2 f).2]
  exact ⟨fun q => by omega, fun q => q.elim (fun q => absurd q.2 f) fun q => absurd e q.1⟩
 ·rw [Yo (h.2 e).2, Yo (g.1 f)]
  exact ⟨fun q => by omega, fun q => q.elim (fun q => absurd q.1 e) fun q => absurd f q.2.1⟩
 rw [Yo (h.2 e).2, Yo (g.2 f).2]
 obtain ⟨a1, _⟩ := h.2 e
 obtain ⟨a2, _⟩ := g.2 f
 constructor
 ·intro q
  refine .inr ⟨e, f, ?_⟩
  have i1 := List.idxOf_lt_length_of_mem a1
  have i2 := List.idxOf_lt_length_of_mem a2
  have q' : (rfn C N n).1.idxOf (Qo C (N.getD s []) (C.getD s 0)) = (rfn C N n).1.idxOf (Qo C (N.getD t []) (C.getD t 0)) := by omega
  rw [← List.getElem_idxOf i1, ← List.getElem_idxOf i2]
  simp only [q']
 rintro (q | q)
 ·exact absurd q.1 e
 rw [q.2.2]
theorem Zdk (h0 : C.length = n) (hs : s < n) : ∀ i, (clsD N C n i).getD s 0 < 0 ↔ C.getD s 0 < 0
 | 0 => Iff.rfl
 | i + 1 => (Zcq hs).trans (Zdk h0 hs i)
theorem Zag (hs : s < A.length) : (Qn A (Yj A N) A.length).getD s 0 = if (Yj A N).getD s false = false then -1 else if A.getD s false then 1 else 0 := by
 unfold Qn
 exact Yo (by rw [List.getElem?_map, List.getElem?_range hs]; rfl)
theorem Zad (hs : s < A.length) : (Qn A (Yj A N) A.length).getD s 0 < 0 ↔ (Yj A N).getD s false = false := by
 rw [Zag hs]
 by_cases h : (Yj A N).getD s false = false
 ·rw [if_pos h]; exact ⟨fun _ => h, fun _ => by omega⟩
 rw [if_neg h]; exact ⟨fun q => by split at q <;> omega, fun q => absurd q h⟩
theorem Zgr (h : Qz S A N) (hs : s < A.length) (hd : (Yj A N).getD s false = false) {v : List Int} (hv : okW v) : Xo A (runT (nxI N) (s : Int) v) = false := by
 cases e : Xo A (runT (nxI N) (s : Int) v) with
 | false => rfl
 | true => rw [(Zbz h hs).2 ⟨v, hv, e⟩] at hd; cases hd
theorem Zfv (h : Qz S A N) (hs : s < A.length) : (N.getD s []).length = 9 := by
 have hN := h.2.2.1
 have hr : N[s]? = some (N[s]'(by omega)) := List.getElem?_eq_getElem _
 rw [Yo hr]; exact (Zat h.2 hr).1
theorem apart (h : Qz S A N) : ∀ i s t, s < A.length → t < A.length → (clsD N (Qn A (Yj A N) A.length) A.length i).getD s 0 ≠ (clsD N (Qn A (Yj A N) A.length) A.length i).getD t 0 → ∃ v, okW v ∧ Xo A (runT (nxI N) (s : Int) v) ≠ Xo A (runT (nxI N) (t : Int) v)
 | i, s, t, hs, ht, hne => by
  have h0 := Zfq A (Yj A N) A.length
  have one : ∀ s t : Nat, s < A.length → t < A.length → (Yj A N).getD s false = true → (Yj A N).getD t false = false → ∃ v, okW v ∧ Xo A (runT (nxI N) (s : Int) v) ≠ Xo A (runT (nxI N) (t : Int) v) := fun s t hs ht a b => by
   obtain ⟨v, hv, e⟩ := (Zbz h hs).1 a
   exact ⟨v, hv, by rw [e, Zgr h ht b hv]; decide⟩
  cases a : (Yj A N).getD s false <;> cases b : (Yj A N).getD t false
  ·exfalso
   have e1 := (Zdk (N := N) h0 hs i).2 ((Zad hs).2 a)
   have e2 := (Zdk (N := N) h0 ht i).2 ((Zad ht).2 b)
   cases i with
   | zero =>
    have e1' := Zag (N := N) hs
    have e2' := Zag (N := N) ht
    rw [if_pos a] at e1'; rw [if_pos b] at e2'
    exact hne (e1'.trans e2'.symm)
   | succ i => exact hne ((Zem hs ht).2 (.inl ⟨(Zcq hs).1 e1, (Zcq ht).1 e2⟩))
  ·obtain ⟨v, hv, e⟩ := one t s ht hs b a
   exact ⟨v, hv, fun q => e q.symm⟩
  ·exact one s t hs ht a b
  have n1 : ∀ i, ¬ (clsD N (Qn A (Yj A N) A.length) A.length i).getD s 0 < 0 := fun i q => by
   have := (Zad hs).1 ((Zdk (N := N) h0 hs i).1 q); rw [a] at this; cases this
  have n2 : ∀ i, ¬ (clsD N (Qn A (Yj A N) A.length) A.length i).getD t 0 < 0 := fun i q => by
   have := (Zad ht).1 ((Zdk (N := N) h0 ht i).1 q); rw [b] at this; cases this
  cases i with
  | zero =>
   refine ⟨[], Zel, fun q => hne ?_⟩
   have q' : Xo A (s : Int) = Xo A (t : Int) := q
   rw [Zcx, Zcx] at q'
   show (Qn A (Yj A N) A.length).getD s 0 = (Qn A (Yj A N) A.length).getD t 0
   rw [Zag hs, Zag ht, a, b, q']
  | succ i =>
   by_cases hc : (clsD N (Qn A (Yj A N) A.length) A.length i).getD s 0 = (clsD N (Qn A (Yj A N) A.length) A.length i).getD t 0
   ·have hk : (N.getD s []).map (keyE (clsD N (Qn A (Yj A N) A.length) A.length i)) ≠ (N.getD t []).map (keyE (clsD N (Qn A (Yj A N) A.length) A.length i)) := fun q =>
     hne ((Zem hs ht).2 (.inr ⟨n1 i, n2 i, by unfold Qo; rw [hc, q]⟩))
    have l1 := Zfv h hs
    have l2 := Zfv h ht
    have ⟨k, hk9, hq⟩ : ∃ k, k < 9 ∧ keyE (clsD N (Qn A (Yj A N) A.length) A.length i) ((N.getD s []).getD k 0) ≠ keyE (clsD N (Qn A (Yj A N) A.length) A.length i) ((N.getD t []).getD k 0) := by
     apply Classical.byContradiction
     intro hh
     refine hk (List.ext_getElem (by rw [List.length_map, List.length_map, l1, l2]) fun k g1 g2 => ?_)
     have g3 : k < 9 := by rwa [List.length_map, l1] at g1
     rw [List.getElem_map, List.getElem_map]
     apply Classical.byContradiction
     intro hn
     refine hh ⟨k, g3, ?_⟩
     rwa [List.getD_eq_getElem?_getD, List.getElem?_eq_getElem (by omega), Option.getD_some, List.getD_eq_getElem?_getD (l := N.getD t []), List.getElem?_eq_getElem (by omega), Option.getD_some]
    have hx : nxI N s k = (N.getD s []).getD k 0 := by rw [Zdw (Int.natCast_nonneg s) (by omega), Int.toNat_natCast]
    have hy : nxI N t k = (N.getD t []).getD k 0 := by rw [Zdw (Int.natCast_nonneg t) (by omega), Int.toNat_natCast]
    rw [← hx, ← hy] at hq
    have r1 := Zdy h hs (k := k) (by omega)
    have r2 := Zdy h ht (k := k) (by omega)
    have fin : (∃ v, okW v ∧ Xo A (runT (nxI N) (nxI N s k) v) ≠ Xo A (runT (nxI N) (nxI N t k) v)) → ∃ v, okW v ∧ Xo A (runT (nxI N) (s : Int) v) ≠ Xo A (runT (nxI N) (t : Int) v) := fun ⟨v, hv, e⟩ =>
     ⟨(k : Int) :: v, Zbw.2 ⟨by omega, hv⟩, by rw [Qd, Qd, Int.toNat_natCast]; exact e⟩
    apply fin
    have lv : ∀ x : Nat, x < A.length → keyE (clsD N (Qn A (Yj A N) A.length) A.length i) (x : Int) ≠ -1 → ∃ v, okW v ∧ Xo A (runT (nxI N) (x : Int) v) = true := fun x hx hk => by
     refine (Zbz h hx).1 ?_
     cases e : (Yj A N).getD x false with
     | true => rfl
     | false =>
      exfalso
      refine hk ?_
      unfold keyE; rw [if_neg (by omega), Int.toNat_natCast]
      cases i with
      | zero => have := Zag (N := N) hx; rw [if_pos e] at this; exact this
      | succ i => exact Yo ((Zcg _ N A.length x hx).1 ((Zdk (N := N) h0 hx i).2 ((Zad hx).2 e)))
    have km : ∀ x : Int, x < 0 → keyE (clsD N (Qn A (Yj A N) A.length) A.length i) x = -1 := fun x hx => by unfold keyE; rw [if_pos hx]
    rcases Int.lt_or_le (nxI N s k) 0 with p1 | p1 <;> rcases Int.lt_or_le (nxI N t k) 0 with p2 | p2
    ·exact absurd ((km _ p1).trans (km _ p2).symm) hq
    ·obtain ⟨y, ey⟩ := Int.eq_ofNat_of_zero_le p2
     rw [km _ p1, ey] at hq
     obtain ⟨v, hv, e⟩ := lv y (by omega) (fun q => hq q.symm)
     exact ⟨v, hv, by rw [Zbs v _ p1, ey, e]; decide⟩
    ·obtain ⟨y, ey⟩ := Int.eq_ofNat_of_zero_le p1
     rw [km _ p2, ey] at hq
     obtain ⟨v, hv, e⟩ := lv y (by omega) hq
     exact ⟨v, hv, by rw [Zbs v _ p2, ey, e]; decide⟩
    obtain ⟨x, ex⟩ := Int.eq_ofNat_of_zero_le p1
    obtain ⟨y, ey⟩ := Int.eq_ofNat_of_zero_le p2
    rw [ex, ey] at hq ⊢
    refine apart h i x y (by omega) (by omega) fun q => hq ?_
    unfold keyE; rw [if_neg (by omega), if_neg (by omega), Int.toNat_natCast, Int.toNat_natCast]; exact q
   exact apart h i s t hs ht hc
 termination_by i => i
end
end Go.KLib

namespace Go.KLib
section
variable {α : Type} {cs : α → List Value} {e k lo hi hi' : Nat} {w w' : World} {vs : List Sv} {xs : List (List α)} {ws : List Nat}
theorem Od.put {i : Nat} {v v' : Sv} {x x' : List α} (h : Od cs e k w lo hi vs xs) (hv : vs[i]? = some v) (hx : xs[i]? = some x) (c : Ch ws w w') (hw : ∀ g ∈ ws, g ∈ bl v.v) (ho : Ol cs e k w' v'.v x') (hb : ∀ g ∈ bl v'.v, g ∈ bl v.v ∨ (hi ≤ g ∧ g < hi')) (hh : hi ≤ hi') (hl : lo ≤ hi) : Od cs e k w' lo hi' (vs.set i v') (xs.set i x') := by
 have i1 := (List.getElem?_eq_some_iff.1 hv).1
 have i2 := (List.getElem?_eq_some_iff.1 hx).1
 have old : ∀ g ∈ bl v.v, lo ≤ g ∧ g < hi := (h.2.1 i v x hv hx).2
 refine ⟨by simp [h.1], fun j u y a b => ?_, fun j1 j2 u1 u2 a b hj => ?_⟩
 ·rw [List.getElem?_set] at a b
  by_cases e1 : i = j
  ·subst e1
   rw [if_pos rfl, if_pos i1] at a
   rw [if_pos rfl, if_pos i2] at b
   injection a with a; injection b with b; subst a; subst b
   exact ⟨ho, fun g hg => by
    rcases hb g hg with q | q
    ·have := old g q; omega
    omega⟩
  rw [if_neg e1] at a b
  have t := h.2.1 j u y a b
  refine ⟨t.1.ch c fun g hg hm => ?_, fun g hg => by have := t.2 g hg; omega⟩
  rcases Nat.lt_or_gt_of_ne e1 with h1 | h1
  ·exact h.2.2 i j v u hv a h1 g (hw g hm) hg
  exact h.2.2 j i u v a hv h1 g hg (hw g hm)
 rw [List.getElem?_set] at a b
 have rng : ∀ (j : Nat) (u : Sv), vs[j]? = some u → ∀ g ∈ bl u.v, lo ≤ g ∧ g < hi := fun j u hu => by
  obtain ⟨_, _, _, r⟩ := h.ownget hu; exact r
 by_cases e1 : i = j1 <;> by_cases e2 : i = j2
 ·omega
 ·subst e1
  rw [if_pos rfl, if_pos i1] at a; rw [if_neg e2] at b
  injection a with a; subst a
  intro g hg hm
  rcases hb g hg with q | q
  ·exact h.2.2 i j2 v u2 hv b hj g q hm
  have := rng j2 u2 b g hm; omega
 ·subst e2
  rw [if_pos rfl, if_pos i1] at b; rw [if_neg e1] at a
  injection b with b; subst b
  intro g hg hm
  rcases hb g hm with q | q
  ·exact h.2.2 j1 i u1 v a hv hj g hg q
  have := rng j1 u1 a g hg; omega
 rw [if_neg e1] at a; rw [if_neg e2] at b
 exact h.2.2 j1 j2 u1 u2 a b hj
theorem Sep.put {o : Value} {i : Nat} {v v' : Sv} (h : Sep o vs) (hv : vs[i]? = some v) (hb : ∀ g ∈ bl v'.v, g ∈ bl v.v ∨ (hi ≤ g ∧ g < hi')) (ho : ∀ g ∈ bl o, g < hi) : Sep o (vs.set i v') := fun u hu g hg hm => by
 rcases List.mem_or_eq_of_mem_set hu with q | q
 ·exact h u q g hg hm
 subst q
 rcases hb g hg with q | q
 ·exact h v (Ql hv) g q hm
 have := ho g hm; omega
end
structure GStp where
 ed : Int
 bk : Bool
 deriving DecidableEq
structure PStep where
 edge : Int
 back : Bool
 node : Int
 state : Int
 deriving DecidableEq
structure Arc where
 edge : Int
 back : Bool
 letter : Int
 to_ : Int
 deriving DecidableEq
def GStp.cs (p : GStp) : List Value := [.int .i64 p.ed, .bool p.bk]
def PStep.cs (p : PStep) : List Value := [.int .i64 p.edge, .bool p.back, .int .i64 p.node, .int .i64 p.state]
def Arc.cs (p : Arc) : List Value := [.int .i64 p.edge, .bool p.back, .int .i64 p.letter, .int .i64 p.to_]
theorem GStp.len (p : GStp) : p.cs.length = 2 := rfl
theorem PStep.len (p : PStep) : p.cs.length = 4 := rfl
theorem Arc.len (p : Arc) : p.cs.length = 4 := rfl
theorem GStp.one (x : GStp) : ∀ y ∈ x.cs, y.oneCell' = true := by intro y hy; simp [GStp.cs] at hy; rcases hy with rfl | rfl <;> rfl
theorem PStep.one (x : PStep) : ∀ y ∈ x.cs, y.oneCell' = true := by intro y hy; simp [PStep.cs] at hy; rcases hy with rfl | rfl | rfl | rfl <;> rfl
theorem Arc.one (x : Arc) : ∀ y ∈ x.cs, y.oneCell' = true := by intro y hy; simp [Arc.cs] at hy; rcases hy with rfl | rfl | rfl | rfl <;> rfl
section
variable {S s t x y : Int} {A : List Bool} {N : List (List Int)}
end
end Go.KLib

namespace Go.KLib
section
variable {S aS bS : Int} {A aA bA : List Bool} {N aN bN : List (List Int)}
end
end Go.KLib

namespace Go.KLib
def Zay (k : Int) (n : Nat) : List PStep := (List.range n).map fun (i : Nat) => ⟨k + 4 * i, decide ((k + 4 * i + 1).tmod 3 = 0), k + 4 * i + 2, k + 4 * i + 3⟩
@[simp] theorem mkPStep_len (k : Int) (n : Nat) : (Zay k n).length = n := by simp [Zay]
theorem Zfx (a : List PStep) {i : Nat} (hi : i < a.length) {kk k : Int} (h : kk = k + 4 * i) : (Zay k i ++ a.drop i).set i ⟨kk, decide ((kk + 1).tmod 3 = 0), kk + 1 + 1, kk + 1 + 1 + 1⟩ = Zay k (i + 1) ++ a.drop (i + 1) := by
 subst h
 have h2 := Zai a (fun (q : Nat) => (⟨k + 4 * q, decide ((k + 4 * q + 1).tmod 3 = 0), k + 4 * q + 2, k + 4 * q + 3⟩ : PStep)) hi
 unfold Zay
 refine Eq.trans (congrArg _ ?_) h2
 simp only [Int.add_assoc]
 all_goals rfl
section
variable {V : List Int} {E : List GEdge} {node : Int} {k : Nat} {e y : GEdge}
end
section
variable {S : Int} {A : List Bool} {N : List (List Int)} {x v m : Int}
end
section
variable {V : List Int} {E : List GEdge} {S node s : Int} {A : List Bool} {N : List (List Int)}
end
end Go.KLib

namespace Go.KLib
section
variable {V : List Int} {E : List GEdge} {node s : Int} {k : Nat} {e y : GEdge} {S : Int} {A : List Bool} {N : List (List Int)}
variable {c q : Nat} {x m t : Int} {r : List Int}
end
section
variable {N : List (List Int)} {x v m z : Int} {l : List Int} {k : Nat} {q : Int}
end
end Go.KLib

namespace Go.KLib
open Go.Sort Go.RowKit Go.Shelf Go.Proofs
theorem Zck {n : Nat} (h : n < 100) : Lib.decDigits n = Qm (n : Int) := by
 by_cases h10 : n < 10
 ·rw [Lib.decDigits, dif_pos h10]
  by_cases h0 : n = 0
  ·subst h0; rfl
  unfold Qm
  rw [if_neg (by omega), if_neg (by omega), Int.natAbs_natCast]
  simp only [dgF]
  rw [if_neg h0, show n / 10 = 0 by omega, if_pos rfl, show n % 10 = n by omega]; rfl
 rw [Lib.decDigits, dif_neg h10, Lib.decDigits, dif_pos (show n / 10 < 10 by omega)]
 unfold Qm
 rw [if_neg (by omega), if_neg (by omega), Int.natAbs_natCast]
 simp only [dgF]
 rw [if_neg (by omega : ¬ n = 0), if_neg (by omega : ¬ n / 10 = 0), show n / 10 / 10 = 0 by omega, if_pos rfl, show n / 10 % 10 = n / 10 by omega]; rfl
theorem Zfi {P : Program} {ρ : Ren} {w : World} {n : Int} (L : Lays.n171 P ρ) (h : 0 ≤ n ∧ n < 100) : Ctr P (ρ.f 171) #[.int .i64 n] w (fun v w' => v = bst (Qm n) ∧ Ch [] w w') := by
 obtain ⟨k, rfl⟩ := Int.eq_ofNat_of_zero_le h.1
 refine (Any.strconv_Itoa_small L k (by omega) w).mono ?_
 rintro e w' ⟨rfl, rfl⟩
 refine ⟨_, rfl, ?_, Ch.refl _ _⟩
 rw [Zck (by omega)]; rfl
def jnS (sep : List UInt8) (xs : List (List UInt8)) : List UInt8 := Lib.join xs sep
theorem Zhq (sep x : List UInt8) : jnS sep [x] = x := Lib.join_one _ _
theorem Zek (xs : List (List UInt8)) : (xs.map bys).map (·.data.toList) = xs := by
 rw [List.map_map]
 have : ((fun x : ByteArray => x.data.toList) ∘ bys) = id := funext fun x => by simp [bys]
 rw [this, List.map_id]
theorem Zca (xs : List (List UInt8)) : xs.flatMap scs = xs.map bst := by
 induction xs with
 | nil => rfl
 | cons a t ih => rw [List.flatMap_cons, ih]; rfl
theorem Zfm {P : Program} {ρ : Ren} {w : World} {v : Value} {e : TypeId} {xs : List (List UInt8)} {sep : List UInt8} (L : Lays.n156 P ρ) (X : Builder.Extra P ρ) (h : Ol scs e 1 w v xs) (hN : xs.length ≤ 4194304) (hlen : (jnS sep xs).length ≤ 140737488355328) :
   Ctr P (ρ.f 156) #[v, bst sep] w (fun u w' => u = bst (jnS sep xs) ∧ Ch [] w w') := by
 have hc := h
 obtain ⟨hl, ⟨rfl, h0⟩ | ⟨g, off, cap, cur, rfl, hg, hn, hm, hs, he⟩⟩ := h
 ·obtain rfl : xs = [] := List.eq_nil_of_length_eq_zero h0
  refine (Any.strings_Join_none L X none 0 (bys sep) w).mono ?_
  rintro e w' ⟨rfl, rfl⟩
  exact ⟨_, rfl, rfl, Ch.refl _ _⟩
 have hcells : ∀ (j : Nat) y, (xs.map bys)[j]? = some y → w.cell? ⟨g, off + j, none⟩ = some (.string y) := fun j y hj => by
  rw [List.getElem?_map] at hj
  cases hx : xs[j]? with
  | none => rw [hx] at hj; cases hj
  | some z =>
   rw [hx] at hj; injection hj with hj
   refine Ow.cells hc rfl j _ ?_
   rw [Zca, List.getElem?_map, hx, ← hj]; rfl
 have hb : (bys sep).data.toList = sep := by simp [bys]
 have key := Any.strings_Join L X g off cap (xs.map bys) (bys sep) w hcells (Array.getElem?_eq_some_iff.1 hg).1 (by rw [List.length_map]; omega) (by rw [List.length_map]; exact hn) (by rw [Zek, hb]; exact hlen)
 rw [List.length_map, Zek, hb] at key
 refine key.mono ?_
 rintro e w' ⟨rfl, hb⟩
 exact ⟨_, rfl, rfl, Ch.of_below hb⟩
end Go.KLib

namespace Go.KLib
section
variable {β : Type} {f : β → List UInt8} {l : List β} {k : Nat} {y : β} {sep : List UInt8}
theorem Zhj {c : Nat} (sep : List UInt8) : ∀ xs : List (List UInt8), (∀ x ∈ xs, x.length ≤ c) → (jnS sep xs).length ≤ (c + sep.length) * xs.length
 | [], _ => Nat.le_refl _
 | x :: r, h => by
  unfold jnS
  rw [Lib.join_cons, List.length_append]
  have h1 := h x (List.mem_cons_self ..)
  have h2 : ∀ r : List (List UInt8), (∀ x ∈ r, x.length ≤ c) → (Lib.joinTail sep r).length ≤ (c + sep.length) * r.length := by
   intro r
   induction r with
   | nil => intro _; exact Nat.le_refl _
   | cons a t ih =>
    intro ha
    have e : Lib.joinTail sep (a :: t) = sep ++ a ++ Lib.joinTail sep t := by unfold Lib.joinTail; simp
    have i := ih fun x hx => ha x (List.mem_cons_of_mem _ hx)
    have b := ha a (List.mem_cons_self ..)
    rw [e, List.length_append, List.length_append, List.length_cons, Nat.mul_succ]; omega
  have h3 := h2 r fun x hx => h x (List.mem_cons_of_mem _ hx)
  rw [List.length_cons, Nat.mul_succ]; omega
theorem Zgu {c : Nat} (sep : List UInt8) (hf : ∀ y, (f y).length ≤ c) (l : List β) : (jnS sep (l.map f)).length ≤ (c + sep.length) * l.length := by
 have := Zhj sep (l.map f) (c := c) (fun x hx => by obtain ⟨y, _, rfl⟩ := List.mem_map.1 hx; exact hf y)
 rwa [List.length_map] at this
end
def Xe (p : Pair) : List UInt8 := Qm p.f ++ Qm p.t
theorem Zez (p : Pair) : (Xe p).length ≤ 42 := by
 have h1 := Zau p.f; have h2 := Zau p.t
 unfold Xe; rw [List.length_append]; omega
def fpS (l : List Pair) : List UInt8 := jnS [32] (l.map Xe)
theorem Zgs (l : List Pair) : (fpS l).length ≤ 43 * l.length := Zgu [32] Zez l
theorem Zfk (l : List Pair) (k : Nat) : (fpS (l.take k)).length ≤ 43 * k := by
 have := Zgs (l.take k); rw [List.length_take] at this; omega
section
variable {l : List Pair} {k : Nat} {y : Pair}
theorem Zgf (hy : l[k]? = some y) : (l.take k).map Xe ++ [Qm y.f ++ Qm y.t] = (l.take (k + 1)).map Xe := by rw [Zbb hy, List.map_append]; rfl
end
noncomputable def fpR (l : List Pair) : List UInt8 := bif tt (ArePairs l) then (if l = [] then [110, 111, 110, 101] else fpS l) else []
section
variable {l : List Pair}
theorem Zhd (h : ¬ ArePairs l) : [] = fpR l := by unfold fpR; rw [← Yb h]; rfl
theorem Zhy (h : ArePairs l) (h0 : l.length = 0) : [110, 111, 110, 101] = fpR l := by
 unfold fpR; rw [← Xd h, cond_true, if_pos (List.eq_nil_of_length_eq_zero h0)]
theorem Zha (h : ArePairs l) (h0 : ¬ l.length = 0) : fpS l = fpR l := by
 unfold fpR; rw [← Xd h, cond_true, if_neg (fun e => h0 (by rw [e]; rfl))]
end
section
variable {S : Int} {A : List Bool} {N : List (List Int)} {r : List Int} {k i : Nat} {t : Int} {b : Bool} {X : List UInt8}
end
end Go.KLib

namespace Go.KLib
open Go.Sort Go.RowKit Go.Shelf Go.Proofs
theorem Zge {a b : UInt8} : ((a.toNat : Int) = (b.toNat : Int)) ↔ a = b := by
 constructor
 ·intro h; exact UInt8.toNat_inj.1 (by omega)
 rintro rfl; rfl
theorem Qg (x : UInt8) (s : List UInt8) (sep : Int) (cur : List UInt8) : Zj (x :: s) sep cur = if (x.toNat : Int) = sep then cur :: Zj s sep [] else Zj s sep (cur ++ [x]) := rfl
theorem Zci {c : UInt8} : ∀ (s cur : List UInt8), c ∉ s → Zj s (c.toNat : Int) cur = [cur ++ s]
 | [], cur, _ => by simp [Zj]
 | x :: s, cur, h => by
  have hx : ¬ (x.toNat : Int) = (c.toNat : Int) := fun e => h (by rw [← Zge.1 e]; exact List.mem_cons_self ..)
  rw [Qg, if_neg hx, Zci s (cur ++ [x]) (fun hm => h (List.mem_cons_of_mem _ hm))]; simp
theorem Zdg {c : UInt8} : ∀ (a cur s : List UInt8), c ∉ a → Zj (a ++ c :: s) (c.toNat : Int) cur = (cur ++ a) :: Zj s (c.toNat : Int) []
 | [], cur, s, _ => by
  show Zj (c :: s) _ cur = _
  rw [Qg, if_pos rfl, List.append_nil]
 | x :: a, cur, s, h => by
  show Zj (x :: (a ++ c :: s)) _ cur = _
  have hx : ¬ (x.toNat : Int) = (c.toNat : Int) := fun e => h (by rw [← Zge.1 e]; exact List.mem_cons_self ..)
  rw [Qg, if_neg hx, Zdg a (cur ++ [x]) s (fun hm => h (List.mem_cons_of_mem _ hm))]; simp
theorem Zcu {s : List UInt8} {c : UInt8} {i : Nat} : Lib.occAt s [c] i = true ↔ s[i]? = some c := by
 unfold Lib.occAt
 rw [← List.head?_drop]
 cases s.drop i with
 | nil => simp
 | cons a t =>
  show (c == a && List.isPrefixOf [] t) = true ↔ some a = some c
  rw [Bool.and_eq_true, beq_iff_eq, Option.some.injEq]
  exact ⟨fun h => h.1.symm, fun h => ⟨h.symm, rfl⟩⟩
theorem Zfh {s : List UInt8} {c : UInt8} {i : Nat} (h : s[i]? = some c) : s = s.take i ++ c :: s.drop (i + 1) := by
 have hi := (List.getElem?_eq_some_iff.1 h).1
 have e : s[i] = c := (List.getElem?_eq_some_iff.1 h).2
 rw [← e, List.getElem_cons_drop, List.take_append_drop]
theorem Zcj (c : UInt8) : ∀ (n : Nat) (s : List UInt8), s.length < n → Lib.splitK [c] 0 (Lib.count s [c]) s = Zj s (c.toNat : Int) []
 | 0, _, h => absurd h (Nat.not_lt_zero _)
 | n + 1, s, h => by
  rcases Lib.index_spec s [c] with ⟨h1, h2⟩ | ⟨i, h1, h2, h3, h4⟩
  ·rw [Lib.count_miss h1]
   have hm : c ∉ s := fun hm => by
    obtain ⟨j, hj, e⟩ := List.getElem_of_mem hm
    have := h2 j (by omega)
    rw [Zcu.2 (List.getElem?_eq_some_iff.2 ⟨hj, e⟩)] at this; cases this
   rw [Zci s [] hm]; rfl
  have hc := Zcu.1 h3
  have hl := (List.getElem?_eq_some_iff.1 hc).1
  rw [Lib.count_hit (by simp) h1, Nat.add_comm]
  have hn : ¬ (Lib.index s [c] == -1) = true := fun e => by have := beq_iff_eq.1 e; omega
  have et : (Lib.index s [c]).toNat = i := by omega
  unfold Lib.splitK
  rw [if_neg hn, et, Nat.add_zero, Zcj c n (s.drop (i + [c].length)) (by rw [List.length_drop, List.length_singleton]; omega)]
  have hm : c ∉ s.take i := fun hm => by
   obtain ⟨j, hj, e⟩ := List.getElem_of_mem hm
   rw [List.length_take] at hj
   have := h4 j (by omega)
   rw [Zcu.2 (List.getElem?_eq_some_iff.2 ⟨by omega, by rw [List.getElem_take] at e; exact e⟩)] at this; cases this
  have := Zdg (s.take i) [] (s.drop (i + 1)) hm
  rw [← Zfh hc] at this
  rw [this]; rfl
theorem Zec (s : List UInt8) (sep : Int) (cur : List UInt8) : Zj s sep cur ≠ [] := by
 induction s generalizing cur with
 | nil => simp [Zj]
 | cons x s ih =>
  rw [Qg]; split
  ·simp
  exact ih _
theorem Zgk {sep x : List UInt8} {r : List (List UInt8)} (h : r ≠ []) : jnS sep (x :: r) = x ++ sep ++ jnS sep r := by
 cases r with
 | nil => exact absurd rfl h
 | cons y r =>
  unfold jnS
  rw [Lib.join_cons, Lib.join_cons]
  unfold Lib.joinTail
  simp
theorem Zdt (c : UInt8) : ∀ (s cur : List UInt8), jnS [c] (Zj s (c.toNat : Int) cur) = cur ++ s
 | [], cur => by simp [Zj, Zhq]
 | x :: s, cur => by
  rw [Qg]
  by_cases h : (x.toNat : Int) = (c.toNat : Int)
  ·rw [if_pos h, Zgk (Zec _ _ _), Zdt c s [], Zge.1 h]; simp
  rw [if_neg h, Zdt c s]; simp
def prP (p : List UInt8) : Pair := ⟨bat p 0 - 48, bat p 1 - 48⟩
theorem Zdc {l : List Pair} (h : ArePairs l) : ∀ (k : Nat) (y : Pair), l[k]? = some y → (k : Int) ≤ 5 * y.f + y.t
 | 0, y, hy => by have := Yu h hy; unfold okP at this; omega
 | k + 1, y, hy => by
  have hl := (List.getElem?_eq_some_iff.1 hy).1
  have hk : l[k]? = some (l[k]'(by omega)) := List.getElem?_eq_getElem _
  have h1 := Zdc h k _ hk
  have h2 := Yu h hk
  have h3 := Yu h hy
  have h4 : Xn (l[k]'(by omega)) y := Zaw h rfl hk hy
  unfold okP at h2 h3
  unfold Xn at h4
  omega
theorem Zcr {l : List Pair} (h : ArePairs l) : l.length ≤ 25 := by
 apply Classical.byContradiction
 intro hn
 have hk : l[25]? = some (l[25]'(by omega)) := List.getElem?_eq_getElem _
 have h1 := Zdc h 25 _ hk
 have h2 := Yu h hk
 unfold okP at h2
 omega
theorem Zbp {b : UInt8} (h : 0 ≤ (b.toNat : Int) - 48 ∧ (b.toNat : Int) - 48 ≤ 4) : Qm ((b.toNat : Int) - 48) = [b] := by
 obtain ⟨k, hk⟩ := Int.eq_ofNat_of_zero_le h.1
 rw [hk, ← Zck (by omega), Lib.decDigits, dif_pos (by omega)]
 have : 48 + k = b.toNat := by omega
 rw [this, UInt8.ofNat_toNat]
theorem Zex {p : List UInt8} (h : p.length = 2) (ho : okP (prP p)) : Xe (prP p) = p := by
 match p, h with
 | [a, b], _ =>
  unfold okP prP at ho
  have e0 : bat [a, b] 0 = (a.toNat : Int) := rfl
  have e1 : bat [a, b] 1 = (b.toNat : Int) := rfl
  simp only [e0, e1] at ho
  unfold Xe prP
  simp only [e0, e1]
  rw [Zbp ⟨ho.1, ho.2.1⟩, Zbp ⟨ho.2.2.1, ho.2.2.2⟩]; rfl
def Zax (L : List (List UInt8)) : Prop := ∀ p ∈ L, p.length = 2
noncomputable def ppR (s : List UInt8) : List Pair × Bool :=
 if s = [110, 111, 110, 101] then ([], true)
 else bif tt (Zax (Zj s 32 []) ∧ ArePairs ((Zj s 32 []).map prP)) then ((Zj s 32 []).map prP, true) else ([], false)
section
variable {s : List UInt8} {k : Nat} {p : List UInt8}
theorem Xa (h : s = [110, 111, 110, 101]) : ([], true) = ppR s := by unfold ppR; rw [if_pos h]
theorem Zz (h : ¬ s = [110, 111, 110, 101]) (hp : (Zj s 32 [])[k]? = some p) (h2 : ¬ p.length = 2) : ([], false) = ppR s := by
 unfold ppR; rw [if_neg h, ← Yb (fun e => h2 (e.1 p (Ql hp)))]; rfl
def TwoP (L : List (List UInt8)) (k : Nat) : Prop := ∀ (i : Nat) p, i < k → L[i]? = some p → p.length = 2
theorem Zda (L : List (List UInt8)) : TwoP L 0 := fun _ _ h => absurd h (Nat.not_lt_zero _)
theorem Xr {L : List (List UInt8)} (h : TwoP L k) (hp : L[k]? = some p) (h2 : p.length = 2) : TwoP L (k + 1) := fun i q hi hq => by
 rcases Nat.lt_succ_iff_lt_or_eq.1 hi with h1 | h1
 ·exact h i q h1 hq
 subst h1; rw [hp] at hq; injection hq with hq; subst hq; exact h2
theorem Zee {L : List (List UInt8)} (h : TwoP L k) (hk : L.length ≤ k) : Zax L := fun p hp => by
 obtain ⟨i, hi, e⟩ := List.getElem_of_mem hp
 exact h i p (by omega) (List.getElem?_eq_some_iff.2 ⟨hi, e⟩)
theorem Yh (h : ¬ s = [110, 111, 110, 101]) (ha : ¬ ArePairs (((Zj s 32 []).take k).map prP)) (hk : (Zj s 32 []).length ≤ k ∨ 31 ≤ k) : ([], false) = ppR s := by
 unfold ppR; rw [if_neg h, ← Yb]
 ·rfl
 rintro ⟨_, h2⟩
 have hl := Zcr h2
 rw [List.length_map] at hl
 rw [List.take_of_length_le (by omega)] at ha
 exact ha h2
theorem Yi (h : ¬ s = [110, 111, 110, 101]) (h2 : TwoP (Zj s 32 []) k) (ha : ArePairs (((Zj s 32 []).take k).map prP)) (hk : (Zj s 32 []).length ≤ k ∨ 31 ≤ k) : ((((Zj s 32 []).take k).map prP), true) = ppR s := by
 have hl := Zcr ha
 rw [List.length_map, List.length_take] at hl
 have hc : (Zj s 32 []).length ≤ k := by omega
 rw [List.take_of_length_le hc] at ha ⊢
 unfold ppR; rw [if_neg h, ← Xd ⟨Zee h2 hc, ha⟩]; rfl
theorem Zde (h2 : Zax (Zj s 32 [])) : fpR ((Zj s 32 []).map prP) = s ↔ ArePairs ((Zj s 32 []).map prP) := by
 have hj : jnS [32] (Zj s 32 []) = s := Zdt 32 s []
 constructor
 ·intro h
  apply Classical.byContradiction
  intro hn
  rw [← Zhd hn] at h
  subst h
  have := h2 [] (by simp [Zj])
  simp at this
 intro h
 have hne : ¬ ((Zj s 32 []).map prP).length = 0 := by
  rw [List.length_map]; intro e; exact Zec s 32 [] (List.eq_nil_of_length_eq_zero e)
 rw [← Zha h hne]
 unfold fpS
 rw [List.map_map]
 have e : (Zj s 32 []).map (Xe ∘ prP) = Zj s 32 [] := by
  conv => rhs; rw [← List.map_id (Zj s 32 [])]
  refine List.map_congr_left fun p hp => ?_
  obtain ⟨i, hi, ei⟩ := List.getElem_of_mem hp
  refine Zex (h2 p hp) (Yu h (k := i) ?_)
  rw [List.getElem?_map, List.getElem?_eq_getElem hi, ei]; rfl
 rw [e, hj]
theorem Zce (h : ¬ s = [110, 111, 110, 101]) (h2 : Zax (Zj s 32 [])) (he : fpR ((Zj s 32 []).map prP) = s) : ((Zj s 32 []).map prP, true) = ppR s := by
 unfold ppR; rw [if_neg h, ← Xd ⟨h2, (Zde h2).1 he⟩]; rfl
theorem Zcf (h : ¬ s = [110, 111, 110, 101]) (h2 : Zax (Zj s 32 [])) (he : ¬ fpR ((Zj s 32 []).map prP) = s) : ([], false) = ppR s := by
 unfold ppR; rw [if_neg h, ← Yb (fun e => he ((Zde h2).2 e.2))]; rfl
end
end Go.KLib

namespace Go.KLib
structure Chg where
 ins : Bool
 eid : Int
 ef : Int
 et : Int
 el : Int
 deriving DecidableEq
def Chg.cs (p : Chg) : List Value := [.bool p.ins, .int .i64 p.eid, .int .i64 p.ef, .int .i64 p.et, .int .i64 p.el]
theorem Chg.len (p : Chg) : p.cs.length = 5 := rfl
theorem Chg.one (x : Chg) : ∀ y ∈ x.cs, y.oneCell' = true := by intro y hy; simp [Chg.cs] at hy; rcases hy with rfl | rfl | rfl | rfl | rfl <;> rfl
def Chg.edge (c : Chg) : GEdge := ⟨c.eid, c.ef, c.et, c.el⟩
def Zdr (k : Int) (n : Nat) : List Chg := (List.range n).map fun (i : Nat) => ⟨decide ((k + 5 * i).tmod 3 = 0), k + 5 * i + 1, k + 5 * i + 2, k + 5 * i + 3, k + 5 * i + 4⟩
@[simp] theorem mkChg_len (k : Int) (n : Nat) : (Zdr k n).length = n := by simp [Zdr]
theorem Zgy (a : List Chg) {i : Nat} (hi : i < a.length) {kk k : Int} (h : kk = k + 5 * i) : (Zdr k i ++ a.drop i).set i ⟨decide (kk.tmod 3 = 0), kk + 1, kk + 1 + 1, kk + 1 + 1 + 1, kk + 1 + 1 + 1 + 1⟩ = Zdr k (i + 1) ++ a.drop (i + 1) := by
 subst h
 have h2 := Zai a (fun (q : Nat) => (⟨decide ((k + 5 * q).tmod 3 = 0), k + 5 * q + 1, k + 5 * q + 2, k + 5 * q + 3, k + 5 * q + 4⟩ : Chg)) hi
 unfold Zdr
 refine Eq.trans (congrArg _ ?_) h2
 simp only [Int.add_assoc]
 all_goals rfl
section
variable {V : List Int} {E : List GEdge} {e y : GEdge} {id : Int} {k : Nat}
end
end Go.KLib

namespace Go.KLib
section
variable {V : List Int} {E F : List GEdge} {c : Chg} {l : List Chg} {k m : Nat}
end
end Go.KLib

namespace Go.KLib
open Go.Sort
section
variable {P : Program} {w : World} {l : KL} {dst : Option Tmp} {ty : TypeId} {pos : String} {aft : Array Go.Edge} {gd : Option (Nat × Bool)} {K : Value → World → Prop}
variable {e k n N m lo hi c L B : Nat} {v u sv : Value} {xs ys : List Value}
end
end Go.KLib

namespace Go.KLib
section
variable {S : Int} {A : List Bool} {N : List (List Int)} {r : List Int} {k i : Nat} {t : Int}
end
section
variable {l : List Token} {k : Nat} {y : Token}
end
end Go.KLib

namespace Go.KLib
open Go.Sort Go.RowKit Go.Shelf Go.Proofs
theorem Zer {P : Program} {ρ : Ren} {w : World} {s : List UInt8} {m : Int} {L0 B : Nat} (L : LaysM.n146 P ρ) (h : Ls ics 1 w L0 B (.slice (some ⟨ρ.g 1, 0, none⟩) 1 1) [m]) (hb : s.length ≤ 4194304) :
   Ctr P (ρ.f 146) #[bst s, bst [32]] w (fun v w' => Ol scs (ρ.t 9) 1 w' v (Zj s 32 []) ∧ Lo w.heap.size v ∧ Ch [] w w') := by
 have hm : w.cell? ⟨ρ.g 1, 0, none⟩ = some (.int .i64 m) := by
  obtain ⟨_, A, c, hv, _, _, h3⟩ := h
  obtain ⟨ad, he, ha⟩ := h3 (by simp)
  injection hv with hv _ _
  rw [he] at hv; injection hv with hv; subst hv
  have := ha.2 0 (.int .i64 m) (by simp [ics])
  rwa [Addr.add_lit] at this
 have h32 : (bys [32]).data.toList = [32] := by simp [bys]
 have hsd : (bys s).data.toList = s := by simp [bys]
 have hcnt : Lib.countB (bys s) (bys [32]) = Lib.count s [32] := by
  show Lib.count (bys s).data.toList (bys [32]).data.toList = _
  rw [h32, hsd]
 have hdat : (Lib.splitB (bys [32]) 0 (Lib.countB (bys s) (bys [32])) (bys s)).map (·.data.toList) = Zj s 32 [] := by
  rw [Lib.splitB_data, h32, hsd, hcnt]
  exact Zcj 32 _ s (Nat.lt_succ_self _)
 have hall := Lib.splitB_all (bys [32]) (by decide) 0 _ (bys s) rfl
 refine (Any.strings_Split { L with } L.i9 (bys s) (bys [32]) m w (by show s.length < _; omega) hm (by decide)).mono ?_
 rintro e w' ⟨rfl, rfl⟩
 obtain ⟨X, hX⟩ : ∃ X, X = Lib.splitB (bys [32]) 0 (Lib.countB (bys s) (bys [32])) (bys s) := ⟨_, rfl⟩
 rw [← hX] at hdat hall ⊢
 have hc := Qj s 32 []
 have hl : X.length = (Zj s 32 []).length := by rw [← hdat, List.length_map]
 have hval : X.map Value.string = (Zj s 32 []).flatMap scs := by
  rw [Zca, ← hdat, List.map_map]
  refine List.map_congr_left fun x _ => ?_
  show Value.string x = .string ⟨x.data.toList.toArray⟩
  congr 1
 refine ⟨_, rfl, ?_, ?_, Ch.alloc w _⟩
 ·have := Ow.made w (ρ.t 9) 1 (Lib.countB (bys s) (bys [32]) + 1) (X.map Value.string).toArray (Lib.countB (bys s) (bys [32]) + 1) (Nat.le_refl _) (by simp only [maxLen]; omega) (by simp; omega)
  rw [← hall, hl] at this ⊢
  unfold Ol
  rw [hval] at this ⊢
  have hz : ((Zj s 32 []).flatMap scs).length = (Zj s 32 []).length := by rw [Zca, List.length_map]
  rwa [List.toList_toArray, List.take_of_length_le (by rw [hz, Nat.mul_one]; exact Nat.le_refl _)] at this
 intro g hg
 simp [bl, Value.ownBlock] at hg
 omega
theorem Zgj (s : List UInt8) : (ppR s).1.length ≤ 25 := by
 unfold ppR
 split
 ·simp
 by_cases h : Zax (Zj s 32 []) ∧ ArePairs ((Zj s 32 []).map prP)
 ·rw [← Xd h]; exact Zcr h.2
 rw [← Yb h]; simp
theorem Zho {W : World} {g : Nat} {m : Int} (h : W.cell? ⟨g, 0, none⟩ = some (.int .i64 m)) : Ls ics 1 W 0 W.heap.size (.slice (some ⟨g, 0, none⟩) 1 1) [m] := by
 have hb := World.block_lt_of_cell? _ _ h
 refine ⟨rfl, _, _, rfl, Nat.le_refl _, by decide, fun _ => ⟨_, rfl, ⟨Nat.zero_le _, hb⟩, fun j u hu => ?_⟩⟩
 have e : [m].flatMap ics = [Value.int .i64 m] := rfl
 rw [e] at hu
 match j, hu with
 | 0, hu =>
  injection hu with hu; subst hu
  rw [Addr.add_lit]; exact h
end Go.KLib
namespace Go
theorem Zcd {H : Type} {enc : TypeId × Value → H} {a : Assume} {C : Checked} {os : Os} {f : FuncId} {fn : Func} {s : ChangeSpec} {conds : List PathCond} {apart fresh handsOn again : Bool} {X : World → Array Value → Prop}
   (hX : ∀ (w w' : World) (args : Array Value), w.heap = w'.heap → X w args → X w' args)
   (own : ownKnob C.prog.godebug = none) (started : os.Started) (noInit : C.prog.inits.idxOf? f = none) (hfn : C.prog.funcs[f]? = some fn)
   (witness : ∃ (w : World) (tape : Tape) (i : Input), w.os = os ∧ (w.forCall tape i).Shaped C.prog ∧ i.vars = [] ∧ Input.okWide C.prog (w.forCall tape i) .any w.heap.size f i ∧
     ((s.pre enc C.prog fn conds apart (w.forCall tape i).memory i.args ∧ X (w.forCall tape i).memory i.args) ∧ sizedMet enc C.prog fn (OpenSpec.ofChange s) apart (w.forCall tape i).memory i.args) ∧ a.holds C.prog (lone (Frame.enter C.prog f i.args .normal) [] (w.forCall tape i)))
   (contract : ∀ (W : World) (base : Nat) (args : Array Value) (ds gs : List (DataW H)) (before : List MemPlace),
     (∀ (j : Nat) t v, fn.params[j]? = some t → args[j]? = some v → Value.okWide C.prog W .any base t v) →
     DataW.Whole enc C.prog fn.params.toList s.vars apart W args.toList ds gs before →
     W.ShapedOpen C.prog → Calls C.prog f args W fun e W' => ∃ v, e = .returned v ∧ s.post enc C.prog fn apart fresh handsOn again W args v W') :
   ReturnsInHanded a C os f .any (fun w args => (s.pre enc C.prog fn conds apart w args ∧ X w args) ∧ sizedMet enc C.prog fn (OpenSpec.ofChange s) apart w args) (s.post enc C.prog fn apart fresh handsOn again) := by
 refine returnsInHanded_of_calls own started noInit witness ?_
 intro w tape i _ hsh _ hok hpre hholds
 obtain ⟨_, _, _, fn', hfn', _, _, _, _, hval⟩ := hok
 have e : fn' = fn := Option.some.inj (hfn'.symm.trans hfn)
 subst e
 obtain ⟨⟨⟨ds, gs, before, hw, hc⟩, hx⟩, hz⟩ := hpre
 have hw' := DataW.Whole.of_heap (w' := w.forCall tape i) (by rfl) hw
 refine (contract (w.forCall tape i) w.heap.size i.args ds gs before hval hw' hsh).mono fun e W' ⟨v, he, hp⟩ => ?_
 subst he
 exact ChangeSpec.post_blind hp
end Go

namespace Go.KLib
theorem om {P : Prop} (h : P := by omega) : P := h
theorem bd {P : Prop} (h : P := by first | omega | (simp only [List.length_append, List.length_nil, List.length_cons, List.length_replicate, List.length_set, List.length_reverse, List.length_map] at *; omega) | (simp at *; omega)) : P := h
section
variable {α : Type} {cs : α → List Value} {e k : Nat} {w : World} {v : Value} {xs : List α} {L B b c lo hi : Nat} {P : Nat → Prop}
theorem Ol.opn (h : Ol cs e k w v xs) : ∃ A C, v = .slice A xs.length C ∧ xs.length ≤ 9223372036854775807 ∧ ∀ g ∈ bl v, g < w.heap.size := by
 obtain ⟨A, C, e⟩ := h.val
 exact ⟨A, C, e, h.len, h.lt⟩
theorem lS (h : lo ≤ b) : ∀ i ∈ [b], lo ≤ i ∨ P i := fun i q => .inl (by rw [List.mem_singleton.1 q]; exact h)
theorem oS (h : P b) : ∀ i ∈ [b], P i := fun i q => by rw [List.mem_singleton.1 q]; exact h
theorem dS (h1 : Lo lo v) (h2 : ∀ g ∈ bl v, g < hi) (h : b < lo ∨ hi ≤ b) : ∀ g ∈ bl v, g ∉ [b] := fun g hg hm => by
 have q := List.mem_singleton.1 hm
 have a := h1 g hg
 have z := h2 g hg
 omega
end
section
variable {P : Program} {N : Nat} {ops : Array Oper} {Q : Po} {l : KL} {w : World} {o : Oper} {S : World → Prop} {fuel : Nat} {listed : Array Bool} {v : Value}
theorem dT (i : Nat) (hi : ops[i]? = some o) (hd : dOk N o.dst = true) (hg : Qv ops l o = some true) (h : Tk P S l o fun v => DR P N ops Q S fuel (listed.setIfInBounds i true) (pu l o.dst v) w) (hk : Zan ops listed i = true := by kernel_rfl) : DR P N ops Q S (fuel + 1) listed l w := DR_s i hi hk hd hg h
theorem dV (i : Nat) (hi : ops[i]? = some o) (hd : dOk N o.dst = true) (hg : Qv ops l o = some true) (hv : ∀ w, Yg P l o w v w) (h : DR P N ops Q S fuel (listed.setIfInBounds i true) (pu l o.dst v) w) (hk : Zan ops listed i = true := by kernel_rfl) : DR P N ops Q S (fuel + 1) listed l w := DR_s i hi hk hd hg (t_v hv h)
theorem dK (i : Nat) (hi : ops[i]? = some o) (hd : dOk N o.dst = true) (hg : Qv ops l o = some false) (h : DR P N ops Q S fuel (listed.setIfInBounds i true) (pu l o.dst undef) w) (hk : Zan ops listed i = true := by kernel_rfl) : DR P N ops Q S (fuel + 1) listed l w := Zgq i hi hk hd hg h
theorem dO (i : Nat) (h : DO P N ops Q S fuel listed i l w) (hr : Region.ready .any ops listed = [i] := by kernel_rfl) : DR P N ops Q S (fuel + 1) listed l w := Zhg i hr h
end
section
variable {l l9 : KL}
theorem sC1 {t0 : Nat} {v0 : Value} (h0 : Xj l9 t0 = some v0) (h : Sub l l9) : Sub ((t0, v0) :: l) l9 := (Sub.cons h0 h)
theorem sC2 {t0 t1 : Nat} {v0 v1 : Value} (h0 : Xj l9 t0 = some v0) (h1 : Xj l9 t1 = some v1) (h : Sub l l9) : Sub ((t0, v0) :: (t1, v1) :: l) l9 := (Sub.cons h0 (Sub.cons h1 h))
theorem sC4 {t0 t1 t2 t3 : Nat} {v0 v1 v2 v3 : Value} (h0 : Xj l9 t0 = some v0) (h1 : Xj l9 t1 = some v1) (h2 : Xj l9 t2 = some v2) (h3 : Xj l9 t3 = some v3) (h : Sub l l9) : Sub ((t0, v0) :: (t1, v1) :: (t2, v2) :: (t3, v3) :: l) l9 := (Sub.cons h0 (Sub.cons h1 (Sub.cons h2 (Sub.cons h3 h))))
end
end Go.KLib

