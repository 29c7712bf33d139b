/- The library of this proof: a logic of the code's forms, memory, data, and plain laws. It speaks of no program. -/
import Derived.WalkKit
import Derived.OrdersHeld
import Derived.WalkLawsBesides
import Derived.WalkSpells
import Derived.ProofKit
import Derived.Deep.Slices
import Derived.Deep.Fields
import Derived.Lib.SmallJoins
import Derived.Laws.Append
import Derived.Laws.CopyRow
import Derived.Laws.AppendOwn
import Derived.Laws.Small
import Derived.Shelf.Sort.Plain
import Derived.Shelf.Slices.CompactI
import Derived.Shelf.Slices.Delete
import Derived.Ground.NamesProg
import Derived.Ground.Names2Prog
import Derived.Shelf.Lay
import Derived.Shelf.Slices.In.SortNone
import Derived.MapKept
import Derived.Ground.SlsfProg
import Derived.Shelf.SlSortCmp.NoneTotal
import Derived.Laws.BytesString
import Derived.Laws.Strings2
import Derived.Laws.Concat
import Derived.Shelf.Strconv.Itoa3
import Derived.Shelf.Strings.OnBuilder
import Derived.Lib.Split
import Derived.Shelf.Strings.SplitShaped
import Derived.Lib.AppendZerosOnto
import Derived.Lib.Overlaps
import Derived.Handed
import Derived.ShapedOpen
import Derived.Lib.SlTrimSet
import Derived.Lib.IndexMore
import Derived.Lib.Atoi
import Derived.Lib.AtoiBound
import Derived.Lib.ItoaNum
import Derived.Shelf.Strconv.Atoi
import Derived.Shelf.Strconv.ErrVar
import Derived.Shelf.Strings.Cut
import Derived.Shelf.Strings.SlTrimAscii
import Derived.Stop.LaidErr
import Derived.Lib.AppendIntMem
import Derived.Lib.AtoiErrMem

namespace Go.KLib
theorem Yt {p : Prop} {_ : Decidable p} (h : decide p = true) : p := of_decide_eq_true h
theorem Yu {p : Prop} {_ : Decidable p} (h : decide p = false) : ¬ p := of_decide_eq_false h
theorem Qj {b : Bool} (h : (!b) = true) : b = false := by cases b <;> simp_all
theorem Qk {b : Bool} (h : (!b) = false) : b = true := by cases b <;> simp_all
theorem bt_e {b c : Bool} (h : (b == c) = true) : b = c := by simpa using h
theorem bf_e {b c : Bool} (h : (b == c) = false) : ¬ b = c := by simpa using h
abbrev KL := List (Nat × Value)
def look : KL → Nat → Option Value
 | [], _ => none
 | p :: l, t => bif Nat.beq p.1 t then some p.2 else look l t
def ev (l : KL) : Operand → Option Value
 | .tmp t => look l t
 | .const v => some v
 | .global g => some (.pointer (some ⟨g, 0, none⟩))
 | .func f => some (.func (.func f) #[] #[])
structure Kn (N : Nat) (a : Act) (l : KL) : Prop where
 defers : a.defers = []
 size : a.tmps.size = N
 slot : ∀ t v, look l t = some v → a.tmps.getD t undef = v
theorem Kn.eval {N : Nat} {a : Act} {l : KL} (h : Kn N a l) {x : Operand} {v : Value} (hx : ev l x = some v) : a.eval x = v := by
 cases x with
 | tmp t => exact h.slot t v hx
 | const u => simpa [ev, Act.eval] using hx
 | global g => simpa [ev, Act.eval] using hx
 | func f => simpa [ev, Act.eval] using hx
theorem Kn.put {N : Nat} {a : Act} {l : KL} (h : Kn N a l) {d : Nat} (hd : d < N) (v : Value) : Kn N (a.put (some d) v) ((d, v) :: l) := by
 refine ⟨h.defers, by simp [Act.put, h.size], fun t u hu => ?_⟩
 have hdl : d < a.tmps.size := h.size ▸ hd
 simp only [look] at hu
 by_cases e : d = t
 ·subst e
  simp at hu
  subst hu
  simp [Act.put, Array.getD_eq_getD_getElem?, hdl]
 have e' : Nat.beq d t = false := Bool.eq_false_iff.2 (fun h => e (Nat.eq_of_beq_eq_true h))
 rw [e'] at hu
 have := h.slot t u hu
 simp only [Act.put, Array.getD_eq_getD_getElem?] at this ⊢
 rw [Array.getElem?_setIfInBounds_ne e]
 exact this
def pu (l : KL) (d : Option Tmp) (v : Value) : KL :=
 match d with
 | some d => (d, v) :: l
 | none => l
def dOk (N : Nat) (d : Option Tmp) : Bool :=
 match d with
 | some d => Nat.blt d N
 | none => true
theorem Kn.pu {N : Nat} {a : Act} {l : KL} (h : Kn N a l) {d : Option Tmp} (hd : dOk N d = true) (v : Value) : Kn N (a.put d v) (pu l d v) := by
 cases d with
 | none => exact h
 | some d => exact h.put (by simpa [dOk, Nat.blt_eq] using hd) v
def Sub (l l' : KL) : Prop := ∀ t v, look l t = some v → look l' t = some v
theorem Sub.refl (l : KL) : Sub l l := fun _ _ h => h
theorem Sub.nil (l : KL) : Sub [] l := fun _ _ h => by simp [look] at h
theorem Sub.cons {l l' : KL} {t : Nat} {v : Value} (h : look l' t = some v) (hs : Sub l l') : Sub ((t, v) :: l) l' := by
 intro u x hx
 simp only [look] at hx
 by_cases e : t = u
 ·subst e
  simp at hx
  subst hx
  exact h
 have e' : Nat.beq t u = false := Bool.eq_false_iff.2 (fun h => e (Nat.eq_of_beq_eq_true h))
 rw [e'] at hx
 exact hs u x hx
theorem Kn.sub {N : Nat} {a : Act} {l l' : KL} (h : Kn N a l') (hs : Sub l l') : Kn N a l := ⟨h.defers, h.size, fun t v hv => h.slot t v (hs t v hv)⟩
abbrev Po := Exit → KL → World → Prop
def up (N : Nat) (Q : Po) : Exit → Act → World → Prop
 | .panic _, _, _ => False
 | .outgrown, _, _ => False
 | e, a, w => ∃ l, Kn N a l ∧ Q e l w
def W (P : Program) (N : Nat) (c : Code) (Q : Po) (l : KL) (w : World) : Prop := ∀ a, Kn N a l → Code.wp P c (up N Q) a w
def thn (K : KL → World → Prop) (Q : Po) : Po
 | .normal, l, w => K l w
 | e, l, w => Q e l w
def inB (id : Nat) (Q : Po) : Po
 | .exit i, l, w => bif Nat.beq i id then Q .normal l w else Q (.exit i) l w
 | e, l, w => Q e l w
section rules
variable {P : Program} {N : Nat} {Q : Po} {l : KL} {w : World}
theorem Zgr {c : Code} {l' : KL} (hs : Sub l l') (h : W P N c Q l w) : W P N c Q l' w := fun a ha => h a (ha.sub hs)
theorem Zh {x y : Code} (h : ∀ K : KL → World → Prop, (∀ l w, W P N y Q l w → K l w) → W P N x (thn K Q) l w) : W P N (.seq x y) Q l w := by
 intro a ha
 refine wp_seq (wp_mono (h (W P N y Q) (fun _ _ h => h) a ha) fun e a' w' he => ?_)
 cases e <;> simp only [up, thn, Exit.then] at he ⊢ <;> first | exact he | (obtain ⟨l', hl, hw⟩ := he; exact hw a' hl)
theorem Yf (h : Q .normal l w) : W P N .skip Q l w := fun _ ha => wp_skip ⟨l, ha, h⟩
theorem Zv (h : Q .ret l w) : W P N .ret Q l w := fun _ ha => wp_ret ⟨l, ha, h⟩
theorem Xx {id : Nat} (h : Q (.exit id) l w) : W P N (.exit id) Q l w := fun _ ha => wp_exit ⟨l, ha, h⟩
theorem Yn {id : Nat} {c : Code} (h : W P N c (inB id Q) l w) : W P N (.block id c) Q l w := by
 intro a ha
 refine wp_block (wp_mono (h a ha) fun e a' w' he => ?_)
 cases e with
 | exit i =>
  obtain ⟨l', hl, hq⟩ := he
  simp only [Exit.inBlock]
  by_cases hi : i = id
  ·subst hi
   simp [inB] at hq
   simpa using ⟨l', hl, hq⟩
  have hi' : Nat.beq i id = false := Bool.eq_false_iff.2 (fun h => hi (Nat.eq_of_beq_eq_true h))
  simp only [inB, hi', cond_false] at hq
  rw [if_neg hi]
  exact ⟨l', hl, hq⟩
 | normal => exact he
 | goto n => exact he
 | ret => exact he
 | panic c => exact he
 | outgrown => exact he
theorem Zz {c : Operand} {x y : Code} {b : Bool} (hc : ev l c = some (.bool b)) (ht : b = true → W P N x Q l w) (hf : b = false → W P N y Q l w) :
 W P N (.cond c x y) Q l w := fun a ha => wp_cond_split (ha.eval hc) (fun h => ht h a ha) (fun h => hf h a ha)
theorem Xr {c : Operand} {x y : Code} (hc : ev l c = some (.bool true)) (ht : W P N x Q l w) : W P N (.cond c x y) Q l w := fun a ha => wp_cond_true (ha.eval hc) (ht a ha)
theorem Zck {c : Operand} {x y : Code} (hc : ev l c = some (.bool false)) (hf : W P N y Q l w) : W P N (.cond c x y) Q l w := fun a ha => wp_cond_false (ha.eval hc) (hf a ha)
theorem Ql {c : Code} {σ : Type} (L : σ → KL) (I : σ → World → Prop) (μ : σ → Nat) (s0 : σ) (hL : Sub (L s0) l) (h0 : I s0 w)
    (round : ∀ s w, I s w → W P N c (thn (fun l' w' => ∃ s', I s' w' ∧ Sub (L s') l' ∧ μ s' < μ s) Q) (L s) w) : W P N (.loop c) Q l w := by
  intro a ha b k cs
  have key : ∀ n s a w, μ s = n → I s w → Kn N a (L s) →
      ∃ e a' w', up N Q e a' w' ∧ Arrives P (lone (b.at a (.code c :: .inLoop c :: k)) cs w) b k cs e a' w' := by
    intro n
    induction n using Nat.strongRecOn with
    | _ n ih =>
      intro s a w hn hI hK
      obtain ⟨e, a₁, w₁, hq, harr⟩ := round s w hI a hK b (.inLoop c :: k) cs
      cases e with
      | normal =>
        obtain ⟨l₁, hl₁, s', hI', hs', hlt⟩ := hq
        obtain ⟨e₂, a₂, w₂, hq₂, harr₂⟩ := ih (μ s') (hn ▸ hlt) s' a₁ w₁ rfl hI' (hl₁.sub hs')
        exact ⟨e₂, a₂, w₂, hq₂, .of_steps (Steps.trans harr (.one step_inLoop)) harr₂⟩
      | exit id => exact ⟨.exit id, a₁, w₁, hq, .pass (x := .inLoop c) rfl (fun _ _ => .inl (by simp)) harr⟩
      | goto n => exact ⟨.goto n, a₁, w₁, hq, .pass (x := .inLoop c) rfl (fun _ _ => .inl (by simp)) harr⟩
      | ret => exact ⟨.ret, a₁, w₁, hq, .pass (x := .inLoop c) rfl (fun _ _ => .inl (by simp)) harr⟩
      | panic ch => exact hq.elim
      | outgrown => exact hq.elim
  obtain ⟨e, a', w', hq, harr⟩ := key _ s0 a w rfl h0 (ha.sub hL)
  exact ⟨e, a', w', hq, .of_steps (.one step_loop) harr⟩
def Qe (P : Program) (l : KL) (o : Oper) (w : World) (v : Value) (w' : World) : Prop :=
 ∀ ρ : Operand → Value, (∀ x u, ev l x = some u → ρ x = u) → (execOp ρ o).run P w = .ok (.value v) w'
def Zju (P : Program) (l : KL) (o : Oper) (w : World) (w' : World) : Prop :=
 ∀ ρ : Operand → Value, (∀ x u, ev l x = some u → ρ x = u) → (execOp ρ o).run P w = .ok .skip w'
def Zkw (P : Program) (l : KL) (o : Oper) (w : World) (f : FuncId) (args : Array Value) : Prop :=
 ∀ ρ : Operand → Value, (∀ x u, ev l x = some u → ρ x = u) → (execOp ρ o).run P w = .ok (.enter f args) w
def yl (ops : Array Oper) (l : KL) (j : Nat) : Option (Option Bool) :=
 match (ops[j]?).bind (·.dst) with
 | none => some none
 | some d => match look l d with
  | some (.bool b) => some (some b)
  | some (.tuple _) => some none
  | _ => none
def Zep (ops : Array Oper) (l : KL) (o : Oper) : Option Bool :=
 match o.guard with
 | none => some true
 | some (j, want) => match yl ops l j with
  | some (some b) => some (b == want)
  | some none => some false
  | none => none
theorem Zbr {ops : Array Oper} {a : Act} {o : Oper} {b : Bool} (ha : Kn N a l) (h : Zep ops l o = some b) : Region.wanted o (yielded ops a.tmps) = b := by
 unfold Zep at h
 unfold Region.wanted
 cases hg : o.guard with
 | none => simp [hg] at h; simp [h]
 | some g =>
  obtain ⟨j, want⟩ := g
  simp only [hg] at h ⊢
  have key : ∀ r, yl ops l j = some r → yielded ops a.tmps j = r := by
   intro r hr
   unfold yl at hr
   unfold yielded
   cases hd : (ops[j]?).bind (·.dst) with
   | none => simp [hd] at hr; simp [← hr]
   | some d =>
    simp only [hd] at hr
    cases hl : look l d with
    | none => simp [hl] at hr
    | some v =>
     have hv := ha.slot d v hl
     rw [Array.getD_eq_getD_getElem?] at hv
     simp only [hl] at hr
     cases hs : a.tmps[d]? with
     | none =>
      rw [hs] at hv
      simp [undef] at hv
      subst hv
      simp at hr
      simp [hs, ← hr]
     | some u =>
      rw [hs] at hv
      simp at hv
      subst hv
      cases u <;> simp at hr <;> simp [hs, ← hr]
  cases hy : yl ops l j with
  | none => simp [hy] at h
  | some r =>
   rw [key r hy]
   cases r with
   | none => simp [hy] at h; simp [← h]
   | some c => simp [hy] at h; simp [← h]
def WL (P : Program) (N : Nat) (ops : Array Oper) (Q : Po) (rest : List Oper) (l : KL) (w : World) : Prop := ∀ a, Kn N a l → wpList P ops (up N Q) rest a w
variable {ops : Array Oper} {rest : List Oper} {o : Oper}
theorem Zc {id : Nat} {os : List Oper} (h : WL P N os.toArray Q os l w) : W P N (.region id os.toArray false) Q l w := fun a ha => wp_region_lit (h a ha)
theorem Ze (h : Q .normal l w) : WL P N ops Q [] l w := fun _ ha => wpList_nil ⟨l, ha, h⟩
theorem Zkm {l' : KL} (hs : Sub l l') (h : WL P N ops Q rest l w) : WL P N ops Q rest l' w := fun a ha => h a (ha.sub hs)
theorem Za (hd : dOk N o.dst = true) (hg : Zep ops l o = some true) {v : Value} {w' : World} (hr : Qe P l o w v w') (h : WL P N ops Q rest (pu l o.dst v) w') : WL P N ops Q (o :: rest) l w := by
 intro a ha
 refine wpList_step fun K hK => ?_
 rw [if_pos (Zbr ha hg)]
 unfold Oper.wp
 rw [hr a.eval (fun x u hx => ha.eval hx)]
 exact hK _ _ (h _ (ha.pu hd v))
theorem Zo (hd : dOk N o.dst = true) (hg : Zep ops l o = some false) (h : WL P N ops Q rest (pu l o.dst undef) w) : WL P N ops Q (o :: rest) l w := by
 intro a ha
 refine wpList_step fun K hK => ?_
 rw [if_neg (by rw [Zbr ha hg]; simp)]
 exact hK _ _ (h _ (ha.pu hd undef))
def Ctr (P : Program) (f : FuncId) (args : Array Value) (w : World) (R : Value → World → Prop) : Prop :=
 Calls P f args w fun e w' => ∃ v, e = .returned v ∧ R v w'
theorem Ctr.mono {f : FuncId} {args : Array Value} {R R' : Value → World → Prop} (h : Ctr P f args w R) (hr : ∀ v w', R v w' → R' v w') : Ctr P f args w R' :=
 Calls.mono h fun _ _ ⟨v, he, hv⟩ => ⟨v, he, hr _ _ hv⟩
theorem Yy {d : Nat} {b : Bool} (hd : look l d = some (.bool b)) (ht : b = true → WL P N ops Q rest ((d, .bool true) :: l) w) (hf : b = false → WL P N ops Q rest ((d, .bool false) :: l) w) : WL P N ops Q rest l w := by
 cases b
 ·exact Zkm (Sub.cons hd (Sub.refl l)) (hf rfl)
 exact Zkm (Sub.cons hd (Sub.refl l)) (ht rfl)
def DR (P : Program) (N : Nat) (ops : Array Oper) (Q : Po) (S : World → Prop) (fuel : Nat) (listed : Array Bool) (l : KL) (w : World) : Prop :=
 ∀ a, Kn N a l → S w → wpAnyH P .any ops (up N Q) S fuel listed a w
theorem Zhb {S : World → Prop} {fuel : Nat} {listed : Array Bool} {l' : KL} (hs : Sub l l') (h : DR P N ops Q S fuel listed l w) : DR P N ops Q S fuel listed l' w := fun a ha => h a (ha.sub hs)
theorem Zkj {id : Nat} (S : World → Prop) (hm : P.follows .mixedOrders = true) (hS : S { w with drawn := w.drawn + 1 })
   (h : DR P N ops Q S ops.size (Array.replicate ops.size false) l { w with drawn := w.drawn + 1 }) : W P N (.region id ops true) Q l w :=
 fun a ha => wp_region_held (S := S) hm (h a ha hS)
def Zei (ops : Array Oper) (listed : Array Bool) (i : Nat) : Bool := Region.noSelect ops && Region.free .any ops listed i && (Region.ready .any ops listed).contains i
theorem Zlx {S : World → Prop} {fuel : Nat} {listed : Array Bool} (i : Nat) (hi : ops[i]? = some o) (hk : Zei ops listed i = true) (hd : dOk N o.dst = true) (hg : Zep ops l o = some true) {v : Value}
   (hr : ∀ w, S w → Qe P l o w v w) (h : DR P N ops Q S fuel (listed.setIfInBounds i true) (pu l o.dst v) w) : DR P N ops Q S (fuel + 1) listed l w := by
 intro a ha hS
 simp only [Zei, Bool.and_eq_true] at hk
 refine wpAnyH_take hi hk.1.1 hk.1.2 hk.2 (fun c a w hq => hq) (v := v) (.inl ⟨Zbr ha hg, fun w hw => hr w hw a.eval (fun x u hx => ha.eval hx)⟩) hS ?_
 exact h _ (ha.pu hd v) hS
theorem Zlg {S : World → Prop} {fuel : Nat} {listed : Array Bool} (i : Nat) (hi : ops[i]? = some o) (hk : Zei ops listed i = true) (hd : dOk N o.dst = true) (hg : Zep ops l o = some false)
   (h : DR P N ops Q S fuel (listed.setIfInBounds i true) (pu l o.dst undef) w) : DR P N ops Q S (fuel + 1) listed l w := by
 intro a ha hS
 simp only [Zei, Bool.and_eq_true] at hk
 refine wpAnyH_take hi hk.1.1 hk.1.2 hk.2 (fun c a w hq => hq) (v := undef) (.inr ⟨Zbr ha hg, rfl⟩) hS ?_
 exact h _ (ha.pu hd undef) hS
theorem Ziq {S : World → Prop} {fuel : Nat} {listed : Array Bool} {rs : List Nat} (hr : Region.ready .any ops listed = rs) (hne : rs ≠ [])
   (h : ∀ i ∈ rs, ∀ a, Kn N a l → S w → wpOp P ops (up N Q) i (fun a' w' => S w' ∧ wpAnyH P .any ops (up N Q) S fuel (listed.setIfInBounds i true) a' w') a w) : DR P N ops Q S (fuel + 1) listed l w :=
 fun a ha hS => wpAnyH_all hr hne fun i hi => h i hi a ha hS
def DO (P : Program) (N : Nat) (ops : Array Oper) (Q : Po) (S : World → Prop) (fuel : Nat) (listed : Array Bool) (i : Nat) (l : KL) (w : World) : Prop :=
 ∀ a, Kn N a l → S w → wpOp P ops (up N Q) i (fun a' w' => S w' ∧ wpAnyH P .any ops (up N Q) S fuel (listed.setIfInBounds i true) a' w') a w
theorem Zms {S : World → Prop} {fuel : Nat} {listed : Array Bool} (i : Nat) (hr : Region.ready .any ops listed = [i]) (h : DO P N ops Q S fuel listed i l w) : DR P N ops Q S (fuel + 1) listed l w :=
 Ziq hr (by simp) (by intro k hk; rw [List.mem_singleton.1 hk]; exact h)
theorem Xd {S : World → Prop} {fuel : Nat} {listed : Array Bool} (i j : Nat) (hr : Region.ready .any ops listed = [i, j]) (h1 : DO P N ops Q S fuel listed i l w) (h2 : DO P N ops Q S fuel listed j l w) : DR P N ops Q S (fuel + 1) listed l w :=
 Ziq hr (by simp) (by intro k hk; rcases List.mem_cons.1 hk with rfl | hk; exact h1; rw [List.mem_singleton.1 hk]; exact h2)
theorem Qq {S : World → Prop} {fuel : Nat} {listed : Array Bool} {d : Nat} {b : Bool} (hd : look l d = some (.bool b)) (ht : b = true → DR P N ops Q S fuel listed ((d, .bool true) :: l) w)
   (hf : b = false → DR P N ops Q S fuel listed ((d, .bool false) :: l) w) : DR P N ops Q S fuel listed l w := by
 cases b
 ·exact Zhb (Sub.cons hd (Sub.refl l)) (hf rfl)
 exact Zhb (Sub.cons hd (Sub.refl l)) (ht rfl)
theorem Zw {S : World → Prop} {fuel : Nat} {listed : Array Bool} (hr : Region.ready .any ops listed = []) (h : Q .normal l w) : DR P N ops Q S fuel listed l w :=
 fun _ ha _ => wpAnyH_done hr ⟨l, ha, h⟩ fuel
def Zet (P : Program) (l : KL) (w : World) : List ResultVar → List Value → Prop
 | [], [] => True
 | .tmp t :: rs, v :: vs => look l t = some v ∧ Zet P l w rs vs
 | .cell t ty :: rs, v :: vs => (∃ a, look l t = some (.pointer (some a)) ∧ (loadVar ty a).run P w = .ok v w) ∧ Zet P l w rs vs
 | _, _ => False
def Zfh (vs : List Value) : Value := match vs with | [v] => v | vs => .tuple vs.toArray
def resF (a : Act) : ResultVar → Sem Value
 | .tmp t => pure (a.tmps.getD t undef)
 | .cell x t => do loadVar t (← asAddr (a.tmps.getD x undef))
theorem Zid (fn : Func) (a : Act) : results fn a.tmps = (fn.results.mapM (resF a) >>= fun vs => pure (if h : vs.size = 1 then vs[0] else .tuple vs)) := by
 unfold results
 congr 1
theorem Zfc {a : Act} (ha : Kn N a l) (fn : Func) {vs : List Value} (h : Zet P l w fn.results.toList vs) : (results fn a.tmps).run P w = .ok (Zfh vs) w := by
 have key : ∀ (rs : List ResultVar) (vs : List Value), Zet P l w rs vs → (rs.mapM (resF a)).run P w = .ok vs w := by
  intro rs
  induction rs with
  | nil => intro vs h; cases vs <;> simp [Zet] at h ⊢
  | cons r rs ih =>
   intro vs h
   cases vs with
   | nil => cases r <;> simp [Zet] at h
   | cons v vs =>
    have hv : (resF a r).run P w = .ok v w ∧ Zet P l w rs vs := by
     cases r with
     | tmp t =>
      obtain ⟨h1, h2⟩ := h
      exact ⟨by simp only [resF, ha.slot t v h1]; rfl, h2⟩
     | cell t ty =>
      obtain ⟨⟨p, h1, h3⟩, h2⟩ := h
      refine ⟨?_, h2⟩
      have hA : (asAddr (a.tmps.getD t undef)).run P w = .ok p w := by rw [ha.slot t _ h1]; rfl
      simp only [resF, Sem.run_bind, hA, Result.andThen_ok, h3]
    simp only [List.mapM_cons, Sem.run_bind, Sem.run_pure, Result.andThen_ok, hv.1, ih vs hv.2]
 have h1 := key _ _ h
 have h2 : (fn.results.mapM (resF a)).run P w = .ok vs.toArray w := by
  rw [← Array.toArray_toList (xs := fn.results), List.mapM_toArray]
  simp only [Sem.run_map, h1, Result.andThen_ok]
 rw [Zid, Sem.run_bind, h2]
 show Result.ok _ w = Result.ok _ w
 congr 1
 match vs with
 | [] => simp [Zfh]
 | [v] => simp [Zfh]
 | v :: u :: vs => simp [Zfh]
def retP (P : Program) (rs : List ResultVar) (R : Value → World → Prop) : Po
 | .normal, l, w | .ret, l, w => ∃ vs, Zet P l w rs vs ∧ R (Zfh vs) w
 | _, _, _ => False
def Zij : Nat → List Value → KL
 | _, [] => []
 | i, v :: vs => (i, v) :: Zij (i + 1) vs
theorem Zig : ∀ (vs : List Value) (i t : Nat) (v : Value), look (Zij i vs) t = some v → i ≤ t ∧ vs[t - i]? = some v := by
 intro vs
 induction vs with
 | nil => intro i t v h; simp [Zij, look] at h
 | cons x vs ih =>
  intro i t v h
  simp only [Zij, look] at h
  by_cases e : i = t
  ·subst e; simp at h; simp [h]
  have e' : Nat.beq i t = false := Bool.eq_false_iff.2 (fun h => e (Nat.eq_of_beq_eq_true h))
  rw [e'] at h
  obtain ⟨h1, h2⟩ := ih (i + 1) t v h
  refine ⟨by omega, ?_⟩
  rw [show t - i = (t - (i + 1)) + 1 from by omega]
  simpa using h2
theorem Yj {f : FuncId} {fn : Func} {c : Code} {vs0 : List Value} {R : Value → World → Prop} (hf : P.funcs[f]? = some fn) (hb : fn.body = some c) (hn : fn.ntmps = N) (hle : Nat.ble vs0.length N = true)
   (h : W P N c (retP P fn.results.toList R) (Zij 0 vs0) w) : Ctr P f vs0.toArray w R := by
 refine calls_of_wp hf hb (wp_mono (h _ ⟨rfl, ?_, fun t v hv => ?_⟩) fun e a w' he => ?_)
 ·have := Nat.le_of_ble_eq_true hle
  simp [hn]; omega
 ·obtain ⟨_, h2⟩ := Zig vs0 0 t v hv
  simp only [Nat.sub_zero] at h2
  rw [Array.getD_eq_getD_getElem?, Array.getElem?_append_left (by have := (List.getElem?_eq_some_iff.1 h2).1; simpa using this)]
  simp [h2]
 cases e with
 | normal =>
  obtain ⟨l', hl, vs, hr, hR⟩ := he
  exact ⟨hl.defers, _, Zfc hl fn hr, _, rfl, hR⟩
 | ret =>
  obtain ⟨l', hl, vs, hr, hR⟩ := he
  exact ⟨hl.defers, _, Zfc hl fn hr, _, rfl, hR⟩
 | exit id => obtain ⟨_, _, h⟩ := he; exact h.elim
 | goto n => obtain ⟨_, _, h⟩ := he; exact h.elim
 | panic ch => exact he.elim
 | outgrown => exact he.elim
theorem Zt {K : KL → World → Prop} (h : Q .ret l w) : thn K Q .ret l w := h
theorem Yq {id : Nat} (h : Q .ret l w) : inB id Q .ret l w := h
theorem Yh {K : KL → World → Prop} {i : Nat} (h : Q (.exit i) l w) : thn K Q (.exit i) l w := h
theorem Xg {i : Nat} (h : Q .normal l w) : inB i Q (.exit i) l w := by
 show (bif Nat.beq i i then Q .normal l w else Q (.exit i) l w)
 rw [Nat.beq_refl]
 exact h
theorem Zb {K : KL → World → Prop} (h : K l w) : thn K Q .normal l w := h
theorem Yc {id : Nat} (h : Q .normal l w) : inB id Q .normal l w := h
theorem Zj {rs : List ResultVar} {R : Value → World → Prop} (vs : List Value) (hr : Zet P l w rs vs) (hR : R (Zfh vs) w) : retP P rs R .ret l w := ⟨vs, hr, hR⟩
def Step (P : Program) (l : KL) (o : Oper) (w : World) (K : Value → World → Prop) : Prop :=
 ∀ (a : Act) (K' : Act → World → Prop) (Q' : Exit → Act → World → Prop), (∀ x u, ev l x = some u → a.eval x = u) → (∀ v w', K v w' → K' (a.put o.dst v) w') → o.wp P a w K' Q'
theorem Step.of {v : Value} {w' : World} {K : Value → World → Prop} (hr : Qe P l o w v w') (h : K v w') : Step P l o w K := by
 intro a K' Q' ha hK
 unfold Oper.wp
 rw [hr a.eval ha]
 exact hK v w' h
theorem Step.ofU {w' : World} {K : Value → World → Prop} (hr : Zju P l o w w') (h : K undef w') : Step P l o w K := by
 intro a K' Q' ha hK
 unfold Oper.wp
 rw [hr a.eval ha]
 exact hK undef w' h
theorem Step.call {f : FuncId} {args : Array Value} {K R : Value → World → Prop} (hr : Zkw P l o w f args) (hc : Ctr P f args w R) (h : ∀ v w', R v w' → K v w') : Step P l o w K := by
 intro a K' Q' ha hK
 unfold Oper.wp
 rw [hr a.eval ha]
 refine Calls.mono hc fun e w' he => ?_
 obtain ⟨v, rfl, hv⟩ := he
 exact hK v w' (h v w' hv)
theorem Zl (hd : dOk N o.dst = true) (hg : Zep ops l o = some true) (h : Step P l o w fun v w' => WL P N ops Q rest (pu l o.dst v) w') : WL P N ops Q (o :: rest) l w := by
 intro a ha
 refine wpList_step fun K hK => ?_
 rw [if_pos (Zbr ha hg)]
 exact h a K _ (fun x u hx => ha.eval hx) fun v w' hw => hK _ _ (hw _ (ha.pu hd v))
theorem Zr {S : World → Prop} {fuel : Nat} {listed : Array Bool} {i : Nat} (hi : ops[i]? = some o) (hd : dOk N o.dst = true) (hg : Zep ops l o = some true)
   (h : Step P l o w fun v w' => S w' ∧ DR P N ops Q S fuel (listed.setIfInBounds i true) (pu l o.dst v) w') : DO P N ops Q S fuel listed i l w := by
 intro a ha _
 unfold wpOp
 simp only [hi]
 rw [if_pos (Zbr ha hg)]
 exact .inl (h a _ _ (fun x u hx => ha.eval hx) fun v w' hw => ⟨hw.1, hw.2 _ (ha.pu hd v) hw.1⟩)
def Tk (P : Program) (S : World → Prop) (l : KL) (o : Oper) (G : Value → Prop) : Prop := ∃ v, (∀ w, S w → Qe P l o w v w) ∧ G v
theorem Tk.of {S : World → Prop} {v : Value} {G : Value → Prop} (h : ∀ w, S w → Qe P l o w v w) (hG : G v) : Tk P S l o G := ⟨v, h, hG⟩
theorem DR_s {S : World → Prop} {fuel : Nat} {listed : Array Bool} (i : Nat) (hi : ops[i]? = some o) (hk : Zei ops listed i = true) (hd : dOk N o.dst = true) (hg : Zep ops l o = some true)
   (h : Tk P S l o fun v => DR P N ops Q S fuel (listed.setIfInBounds i true) (pu l o.dst v) w) : DR P N ops Q S (fuel + 1) listed l w :=
 let ⟨_, hr, h⟩ := h
 Zlx i hi hk hd hg hr h
end rules
end Go.KLib

namespace Go.KLib
structure Ch (ws : List Nat) (w w' : World) : Prop where
 os : w'.os = w.os
 tape : w'.tape = w.tape
 output : w'.output = w.output
 size : w.heap.size ≤ w'.heap.size
 block : ∀ k, k < w.heap.size → k ∉ ws → w'.heap[k]? = w.heap[k]?
theorem Ch.refl (ws : List Nat) (w : World) : Ch ws w w := ⟨rfl, rfl, rfl, Nat.le_refl _, fun _ _ _ => rfl⟩
theorem Ch.trans {ws : List Nat} {a b c : World} (h : Ch ws a b) (k : Ch ws b c) : Ch ws a c :=
 ⟨k.os.trans h.os, k.tape.trans h.tape, k.output.trans h.output, Nat.le_trans h.size k.size, fun i hi hn => (k.block i (Nat.lt_of_lt_of_le hi h.size) hn).trans (h.block i hi hn)⟩
theorem Ch.mono {ws ws' : List Nat} {a b : World} (h : Ch ws a b) (hs : ∀ k, k < a.heap.size → k ∈ ws → k ∈ ws') : Ch ws' a b :=
 ⟨h.os, h.tape, h.output, h.size, fun k hk hn => h.block k hk fun hm => hn (hs k hk hm)⟩
theorem Ch.of_nil {ws : List Nat} {a b : World} (h : Ch [] a b) : Ch ws a b := h.mono (fun _ _ hm => by cases hm)
theorem Ch.step {ws us : List Nat} {a b c : World} (h : Ch ws a b) (k : Ch us b c) (hf : ∀ i ∈ us, a.heap.size ≤ i ∨ i ∈ ws) : Ch ws a c :=
 ⟨k.os.trans h.os, k.tape.trans h.tape, k.output.trans h.output, Nat.le_trans h.size k.size, fun i hi hn =>
  (k.block i (Nat.lt_of_lt_of_le hi h.size) fun hm => by rcases hf i hm with h' | h'; omega; exact hn h').trans (h.block i hi hn)⟩
theorem Ch.drew {ws : List Nat} {a b : World} (h : Ch ws a b) : Ch ws a { b with drawn := b.drawn + 1 } := ⟨h.os, h.tape, h.output, h.size, h.block⟩
theorem Ch.below {a b : World} (h : Ch [] a b) : RowKit.Below a.heap.size a b := ⟨h.os, h.tape, h.output, h.size, fun k hk => h.block k hk (by simp)⟩
theorem Ch.alloc (w : World) (o : Obj) : Ch [] w (w.alloc o) := ⟨rfl, rfl, rfl, by simp, fun k hk _ => RowKit.Below.heap_alloc w o k hk⟩
theorem Ch.setCell (w : World) (p : Addr) (v : Value) : Ch [p.block] w (w.setCell p v) :=
 ⟨rfl, rfl, rfl, by simp, fun k _ hn => RowKit.Below.heap_setCell w p v k (by simpa using hn)⟩
theorem Ch.cell {ws : List Nat} {w w' : World} (h : Ch ws w w') {p : Addr} {u : Value} (hc : w.cell? p = some u) (hn : p.block ∉ ws) : w'.cell? p = some u :=
 (World.cell?_of_block (h.block p.block (World.block_lt_of_cell? w p hc) hn)).trans hc
theorem Zcf (a : Addr) (n : Nat) : (a.add n).block = a.block := by unfold Addr.add; split <;> rfl
theorem add_add (a : Addr) (i j : Nat) : (a.add i).add j = a.add (i + j) := by
 unfold Addr.add
 by_cases hi : i = 0 <;> by_cases hj : j = 0 <;> simp [hi, hj, Nat.add_assoc]
theorem add_lit (b o n : Nat) : (⟨b, o, none⟩ : Addr).add n = ⟨b, o + n, none⟩ := by unfold Addr.add; split <;> simp_all
def At (w : World) (L B : Nat) (p : Addr) (cs : List Value) : Prop := (L ≤ p.block ∧ p.block < B) ∧ ∀ j u, cs[j]? = some u → w.cell? (p.add j) = some u
section
variable {w w' : World} {L L' B B' : Nat} {p : Addr} {cs : List Value} {ws : List Nat}
theorem At.ch (h : At w L B p cs) (c : Ch ws w w') (hw : ∀ k ∈ ws, k < L ∨ B ≤ k) : At w' L B p cs :=
 ⟨h.1, fun j u hu => c.cell (h.2 j u hu) (by rw [Zcf]; intro hm; have := hw _ hm; have := h.1; omega)⟩
theorem At.ch0 (h : At w L B p cs) (c : Ch [] w w') : At w' L B p cs := h.ch c (by simp)
theorem At.up (h : At w L B p cs) (hL : L' ≤ L) (hB : B ≤ B') : At w L' B' p cs := ⟨⟨Nat.le_trans hL h.1.1, Nat.lt_of_lt_of_le h.1.2 hB⟩, h.2⟩
theorem At.cell (h : At w L B p cs) (j : Nat) {u : Value} (hu : cs[j]? = some u) : w.cell? (p.add j) = some u := h.2 j u hu
theorem At.sub (h : At w L B p cs) (o n : Nat) : At w L B (p.add o) ((cs.drop o).take n) := by
 refine ⟨by rw [Zcf]; exact h.1, fun j u hu => ?_⟩
 rw [add_add]
 refine h.2 (o + j) u ?_
 rw [List.getElem?_take] at hu
 split at hu
 ·rwa [List.getElem?_drop] at hu
 cases hu
theorem At.lt (h : At w L B p cs) : p.block < B := h.1.2
end
def Blk (w : World) (b : Nat) (t : TypeId) (cs : List Value) : Prop := w.heap[b]? = some (.cells cs.toArray t (0, 0))
section
variable {w w' : World} {b : Nat} {t : TypeId} {cs : List Value} {ws : List Nat}
theorem Blk.lt (h : Blk w b t cs) : b < w.heap.size := by
 rcases Nat.lt_or_ge b w.heap.size with hlt | hge
 ·exact hlt
 unfold Blk at h; rw [Array.getElem?_eq_none hge] at h; cases h
theorem Blk.ch (h : Blk w b t cs) (c : Ch ws w w') (hn : b ∉ ws) : Blk w' b t cs := (c.block b h.lt hn).trans h
theorem Blk.ch0 (h : Blk w b t cs) (c : Ch [] w w') : Blk w' b t cs := h.ch c (by simp)
theorem Blk.cell (h : Blk w b t cs) (i : Nat) : w.cell? ⟨b, i, none⟩ = cs[i]? := by
 unfold Blk at h
 simp [World.cell?, h]
theorem Blk.at_ (h : Blk w b t cs) : At w b (b + 1) ⟨b, 0, none⟩ cs :=
 ⟨⟨Nat.le_refl b, Nat.lt_succ_self b⟩, fun j u hu => by rw [add_lit, h.cell]; simpa using hu⟩
theorem Blk.frozen (h : Blk w b t cs) (i : Nat) : w.frozen? ⟨b, i, none⟩ = false := by
 unfold Blk at h
 simp [World.frozen?, h]
theorem Blk.new (w : World) (t : TypeId) (cs : List Value) : Blk (w.alloc (.cells cs.toArray t)) w.heap.size t cs := heap_alloc_new w _
theorem Blk.set (h : Blk w b t cs) (i : Nat) (u : Value) : Blk (w.setCell ⟨b, i, none⟩ u) b t (cs.set i u) := by
 unfold Blk at h ⊢
 simp [World.setCell, Array.getElem?_modify, h]
end
def Sl (w : World) (L B k : Nat) (v : Value) (n : Nat) (xs : List Value) : Prop :=
 xs.length = n * k ∧ ∃ A c, v = .slice A n c ∧ n ≤ c ∧ c ≤ maxLen ∧ (0 < n → ∃ ad, A = some ad ∧ At w L B ad xs)
section
variable {w w' : World} {L L' B B' k n : Nat} {v : Value} {xs : List Value} {ws : List Nat}
theorem Sl.ch (h : Sl w L B k v n xs) (c : Ch ws w w') (hw : ∀ i ∈ ws, i < L ∨ B ≤ i) : Sl w' L B k v n xs := by
 obtain ⟨hl, A, cp, hv, h1, h2, h3⟩ := h
 exact ⟨hl, A, cp, hv, h1, h2, fun hn => let ⟨ad, he, ha⟩ := h3 hn; ⟨ad, he, ha.ch c hw⟩⟩
theorem Sl.ch0 (h : Sl w L B k v n xs) (c : Ch [] w w') : Sl w' L B k v n xs := h.ch c (by simp)
theorem Sl.up (h : Sl w L B k v n xs) (hL : L' ≤ L) (hB : B ≤ B') : Sl w L' B' k v n xs := by
 obtain ⟨hl, A, cp, hv, h1, h2, h3⟩ := h
 exact ⟨hl, A, cp, hv, h1, h2, fun hn => let ⟨ad, he, ha⟩ := h3 hn; ⟨ad, he, ha.up hL hB⟩⟩
theorem Sl.nil (w : World) (L B k : Nat) : Sl w L B k (.slice none 0 0) 0 [] := ⟨by simp, none, 0, rfl, Nat.le_refl _, Nat.zero_le _, fun h => absurd h (by omega)⟩
theorem Sl.len_le (h : Sl w L B k v n xs) : n ≤ 9223372036854775807 := by
 obtain ⟨_, _, _, _, h1, h2, _⟩ := h
 simp only [maxLen] at h2
 omega
end
def Ow (w : World) (e : TypeId) (k : Nat) (v : Value) (n : Nat) (xs : List Value) : Prop :=
 xs.length = n * k ∧ ((v = .slice none 0 0 ∧ n = 0) ∨
  ∃ g off cap cur, v = .slice (some ⟨g, off, none⟩) n cap ∧ w.heap[g]? = some (.cells cur e (0, 0)) ∧ n ≤ cap ∧ cap ≤ maxLen ∧ off + cap * k ≤ cur.size ∧ (cur.toList.drop off).take (n * k) = xs)
def bl (v : Value) : List Nat := v.ownBlock.toList
def Lo (B : Nat) (v : Value) : Prop := ∀ g ∈ bl v, B ≤ g
section
variable {w w' : World} {L L' B B' k n : Nat} {e : TypeId} {v : Value} {xs : List Value} {ws : List Nat}
theorem Ow.nil (w : World) (e : TypeId) (k : Nat) : Ow w e k (.slice none 0 0) 0 [] := ⟨by simp, .inl ⟨rfl, rfl⟩⟩
theorem Lo.nil (B : Nat) : Lo B (.slice none 0 0) := by intro g hg; simp [bl, Value.ownBlock] at hg
theorem Lo.down (h : Lo B v) (hB : B' ≤ B) : Lo B' v := fun g hg => Nat.le_trans hB (h g hg)
theorem Ow.lt (h : Ow w e k v n xs) : ∀ g ∈ bl v, g < w.heap.size := by
 intro g hg
 rcases h.2 with ⟨rfl, _⟩ | ⟨g', off, cap, cur, rfl, hgg, _⟩
 ·simp [bl, Value.ownBlock] at hg
 simp [bl, Value.ownBlock] at hg
 subst hg
 exact (Array.getElem?_eq_some_iff.1 hgg).1
theorem Ow.ch (h : Ow w e k v n xs) (c : Ch ws w w') (hn : ∀ g ∈ bl v, g ∉ ws) : Ow w' e k v n xs := by
 refine ⟨h.1, ?_⟩
 rcases h.2 with h0 | ⟨g, off, cap, cur, rfl, hg, rest⟩
 ·exact .inl h0
 exact .inr ⟨g, off, cap, cur, rfl, by rw [c.block g (Array.getElem?_eq_some_iff.1 hg).1 (hn g (by simp [bl, Value.ownBlock]))]; exact hg, rest⟩
theorem Ow.ch0 (h : Ow w e k v n xs) (c : Ch [] w w') : Ow w' e k v n xs := h.ch c (by simp)
theorem Ow.cells (h : Ow w e k v n xs) {g off cap : Nat} (hv : v = .slice (some ⟨g, off, none⟩) n cap) : ∀ j u, xs[j]? = some u → w.cell? ⟨g, off + j, none⟩ = some u := by
 intro j u hu
 rcases h.2 with ⟨rfl, _⟩ | ⟨g', off', cap', cur, rfl, hg, _, _, _, ht⟩
 ·cases hv
 injection hv with h1 _ h3
 injection h1 with h1
 injection h1 with h1 h2
 subst h1 h2
 rw [← ht, List.getElem?_take] at hu
 split at hu
 ·rw [List.getElem?_drop] at hu
  simpa [World.cell?, hg] using hu
 cases hu
theorem Ow.sl (h : Ow w e k v n xs) : Sl w 0 w.heap.size k v n xs := by
 refine ⟨h.1, ?_⟩
 have hc := fun g off cap => h.cells (g := g) (off := off) (cap := cap)
 rcases h.2 with ⟨rfl, rfl⟩ | ⟨g, off, cap, cur, rfl, hg, h1, h2, h3, _⟩
 ·exact ⟨none, 0, rfl, Nat.le_refl _, Nat.zero_le _, fun h => absurd h (by omega)⟩
 exact ⟨_, cap, rfl, h1, h2, fun _ => ⟨_, rfl, ⟨Nat.zero_le _, (Array.getElem?_eq_some_iff.1 hg).1⟩, fun j u hu => by rw [add_lit]; exact hc g off cap rfl j u hu⟩⟩
theorem Ow.made (w : World) (e : TypeId) (k cap : Nat) (cur : Array Value) (n : Nat) (hn : n ≤ cap) (hm : cap ≤ maxLen) (hs : cur.size = cap * k) :
   Ow (w.alloc (.cells cur e)) e k (.slice (some ⟨w.heap.size, 0, none⟩) n cap) n (cur.toList.take (n * k)) := by
 refine ⟨?_, .inr ⟨w.heap.size, 0, cap, cur, rfl, heap_alloc_new w _, hn, hm, by omega, by simp⟩⟩
 rw [List.length_take, Array.length_toList, hs]
 exact Nat.min_eq_left (Nat.mul_le_mul_right _ hn)
theorem Ow.len_le (h : Ow w e k v n xs) : n ≤ 9223372036854775807 := h.sl.len_le
end
theorem Yv {P : Program} {N : Nat} {ops : Array Oper} {Q : Po} {id : Nat} {l : KL} {w : World} (ws : List Nat) (n : Nat) (hm : P.follows .mixedOrders = true) (hn : ops.size = n)
   (h : ∀ w1, Ch [] w w1 → DR P N ops Q (Ch ws w1) n (Array.replicate n false) l w1) : W P N (.region id ops true) Q l w := by
 subst hn
 exact Zkj (Ch ws { w with drawn := w.drawn + 1 }) hm (Ch.refl _ _) (h _ (Ch.refl [] w).drew)
theorem Sl.here {w : World} {L B k n : Nat} {v : Value} {xs : List Value} (h : Sl w L B k v n xs) (hk : 0 < k) : Sl w L w.heap.size k v n xs := by
 obtain ⟨hl, A, c, hv, h1, h2, h3⟩ := h
 refine ⟨hl, A, c, hv, h1, h2, fun hn => ?_⟩
 obtain ⟨ad, he, hb, ha⟩ := h3 hn
 refine ⟨ad, he, ⟨hb.1, ?_⟩, ha⟩
 have hx : 0 < xs.length := by rw [hl]; exact Nat.mul_pos hn hk
 have := World.block_lt_of_cell? w _ (ha 0 _ (List.getElem?_eq_getElem hx))
 rwa [Zcf] at this
end Go.KLib

namespace Go.KLib
def Yk (P : Program) (t : TypeId) : Option Bool :=
 match P.underlying t with
 | some (.struct _) | some (.array _ _) => some true
 | some _ => some false
 | none => none
def Ya (P : Program) (t : TypeId) : Option Nat := (P.info? t).map (·.size)
def Qo (P : Program) (t : TypeId) : Option Nat := (P.info? t).map (·.bytes)
def Yw (P : Program) (t : TypeId) : Option Value := (P.info? t).bind (·.zero)
def elB (P : Program) (t : TypeId) : Option TypeId :=
 match P.underlying t with
 | some (.slice e) => some e
 | _ => none
def faB (P : Program) (s field : Nat) : Option Nat :=
 match P.underlying s with
 | some (.struct fs) => match fs[field]? with
  | some f => match Ya P f.type with
   | some (_ + 1) => some f.offset
   | _ => none
  | none => none
 | _ => none
section
variable {P : Program} {w : World}
theorem Zho {t : TypeId} {b : Bool} (h : Yk P t = some b) : (isAgg t).run P w = .ok b w := by
 unfold Yk at h
 cases hu : P.underlying t with
 | none => simp [hu] at h
 | some d => cases d <;> simp [hu] at h <;> simp [isAgg, run_underlying hu, h]
theorem Qn {t : TypeId} {n : Nat} (h : Ya P t = some n) : (sizeOf t).run P w = .ok n w := by
 unfold Ya at h
 cases hi : P.info? t with
 | none => simp [hi] at h
 | some i => simp [hi] at h; simp [sizeOf, typeInfo, hi, h]
theorem Zdn {t : TypeId} {z : Value} (h : Yw P t = some z) : (zeroValue t).run P w = .ok z w := by
 unfold Yw at h
 cases hi : P.info? t with
 | none => simp [hi] at h
 | some i => simp [hi] at h; simp [zeroValue, typeInfo, hi, h]
theorem Zab {t e : TypeId} (h : elB P t = some e) : P.underlying t = some (.slice e) := by
 unfold elB at h
 cases hu : P.underlying t with
 | none => simp [hu] at h
 | some d => cases d <;> simp [hu] at h; rw [h]
theorem Zgy {t : TypeId} {s b : Nat} {z : Value} (hs : Ya P t = some s) (hb : Qo P t = some b) (hz : Yw P t = some z) : ∃ i, P.info? t = some i ∧ i.zero = some z ∧ i.size = s ∧ i.bytes = b := by
 unfold Ya at hs; unfold Qo at hb; unfold Yw at hz
 cases hi : P.info? t with
 | none => simp [hi] at hs
 | some i => simp [hi] at hs hb hz; exact ⟨i, rfl, hz, hs, hb⟩
variable {l : KL} {dst : Option Tmp} {ty : TypeId} {pos : String} {aft : Array Edge} {gd : Option (Nat × Bool)}
theorem Zg {x : Operand} {v : Value} (h : ev l x = some v) : Qe P l ⟨dst, .move x, ty, pos, aft, gd⟩ w v w := fun ρ hρ => by simp [execOp, hρ x v h]
theorem Zf {x : Operand} {v : Value} (h : ev l x = some v) : Qe P l ⟨dst, .assign x, ty, pos, aft, gd⟩ w v w := fun ρ hρ => by simp [execOp, hρ x v h]
theorem Ym {c x y : Operand} {u : Value} (hc : ev l c = some (.bool true)) (hx : ev l x = some u) : Qe P l ⟨dst, .pick c x y, ty, pos, aft, gd⟩ w u w := fun ρ hρ => by
 simp [execOp, hρ _ _ hc, hρ _ _ hx, asBool]
theorem Yl {c x y : Operand} {v : Value} (hc : ev l c = some (.bool false)) (hy : ev l y = some v) : Qe P l ⟨dst, .pick c x y, ty, pos, aft, gd⟩ w v w := fun ρ hρ => by
 simp [execOp, hρ _ _ hc, hρ _ _ hy, asBool]
theorem Zag {x : Operand} {p : Addr} (h : ev l x = some (.pointer (some p))) : Qe P l ⟨dst, .nilCheck x, ty, pos, aft, gd⟩ w (.pointer (some p)) w := fun ρ hρ => by simp [execOp, hρ x _ h]
theorem Xp {x : Operand} {t : TypeId} {b : Bool} (h : ev l x = some (.bool b)) : Qe P l ⟨dst, .unOp .not t x, ty, pos, aft, gd⟩ w (.bool (!b)) w := fun ρ hρ => by simp [execOp, hρ x _ h, Op.unary]
theorem Yb {x : Operand} {vs : Array Value} {i : Nat} {v : Value} (h : ev l x = some (.tuple vs)) (hi : vs[i]? = some v) : Qe P l ⟨dst, .extract x i, ty, pos, aft, gd⟩ w v w := fun ρ hρ => by
 simp [execOp, hρ x _ h, Instr.extract, hi]
theorem Zd {x : Operand} {s field off : Nat} {p : Addr} (hs : faB P s field = some off) (h : ev l x = some (.pointer (some p))) :
   Qe P l ⟨dst, .fieldAddr s x field, ty, pos, aft, gd⟩ w (.pointer (some (p.add off))) w := fun ρ hρ => by
 unfold faB at hs
 cases hu : P.underlying s with
 | none => simp [hu] at hs
 | some d =>
  cases d with
  | struct fs =>
   simp only [hu] at hs
   cases hf : fs[field]? with
   | none => simp [hf] at hs
   | some f =>
    simp only [hf] at hs
    cases hz : Ya P f.type with
    | none => simp [hz] at hs
    | some n =>
     cases n with
     | zero => simp [hz] at hs
     | succ n =>
      simp [hz] at hs
      simp [execOp, hρ x _ h, Instr.fieldAt, run_underlying hu, hf, Instr.sureAddr, fieldPlace, Qn hz, hs]
  | _ => simp [hu] at hs
theorem Zgv {x : Operand} {t : TypeId} {p : Addr} {v : Value} (ht : Yk P t = some false) (h : ev l x = some (.pointer (some p))) (hc : w.cell? p = some v) :
   Qe P l ⟨dst, .load t x, ty, pos, aft, gd⟩ w v w := fun ρ hρ => by
 simp [execOp, hρ x _ h, Instr.loadAt, Instr.sureAddr, loadVar, Zho ht, hc]
theorem Zgf {t : TypeId} {p : Addr} {cs : List Value} (ht : Yk P t = some true) (hz : Ya P t = some cs.length) (hc : ∀ j u, cs[j]? = some u → w.cell? (p.add j) = some u) :
   (loadVar t p).run P w = .ok (.agg cs.toArray) w := by
 simp [loadVar, Zho ht, Qn hz, run_loadCells_list w p cs hc]
theorem Ziu {x : Operand} {t : TypeId} {p : Addr} {cs : List Value} (ht : Yk P t = some true) (hz : Ya P t = some cs.length) (h : ev l x = some (.pointer (some p)))
   (hc : ∀ j u, cs[j]? = some u → w.cell? (p.add j) = some u) : Qe P l ⟨dst, .load t x, ty, pos, aft, gd⟩ w (.agg cs.toArray) w := fun ρ hρ => by
 simp [execOp, hρ x _ h, Instr.loadAt, Instr.sureAddr, Zgf ht hz hc]
theorem Zp {x : Operand} {t : TypeId} {p : Addr} {L B off : Nat} {cs : List Value} {v : Value} (ha : At w L B p cs) (ht : Yk P t = some false) (h : ev l x = some (.pointer (some (p.add off)))) (hv : cs[off]? = some v) :
 Qe P l ⟨dst, .load t x, ty, pos, aft, gd⟩ w v w := Zgv ht h (ha.cell off hv)
theorem Zdl {x : Operand} {t : TypeId} {p : Addr} {L B off : Nat} {cs : List Value} (n : Nat) (ha : At w L B p cs) (ht : Yk P t = some true) (hz : Ya P t = some n) (hn : ((cs.drop off).take n).length = n) (h : ev l x = some (.pointer (some (p.add off)))) :
 Qe P l ⟨dst, .load t x, ty, pos, aft, gd⟩ w (.agg ((cs.drop off).take n).toArray) w := Ziu ht (by rw [hn]; exact hz) h (ha.sub off n).2
theorem Zce {x : Operand} {t : TypeId} {p : Addr} {L B : Nat} {cs : List Value} {v : Value} (ha : At w L B p cs) (ht : Yk P t = some false) (h : ev l x = some (.pointer (some p))) (hv : cs[0]? = some v) :
 Qe P l ⟨dst, .load t x, ty, pos, aft, gd⟩ w v w := Zgv ht h (ha.cell 0 hv)
theorem Zi {x : Operand} {t : TypeId} {p : Addr} {L B : Nat} {cs : List Value} (ha : At w L B p cs) (ht : Yk P t = some true) (hz : Ya P t = some cs.length) (h : ev l x = some (.pointer (some p))) :
 Qe P l ⟨dst, .load t x, ty, pos, aft, gd⟩ w (.agg cs.toArray) w := Ziu ht hz h ha.2
section
variable {x y : Operand} {xt yt : TypeId} {k : IntKind} {a b : Int}
theorem Qw (hx : ev l x = some (.int k a)) (hy : ev l y = some (.int k b)) : Qe P l ⟨dst, .binOp .lss xt x y yt, ty, pos, aft, gd⟩ w (.bool (decide (a < b))) w := fun ρ hρ => by
 simp [execOp, hρ _ _ hx, hρ _ _ hy, eqGuard, binOp, Op.intCmp]
theorem Zga (hx : ev l x = some (.int k a)) (hy : ev l y = some (.int k b)) : Qe P l ⟨dst, .binOp .leq xt x y yt, ty, pos, aft, gd⟩ w (.bool (decide (a ≤ b))) w := fun ρ hρ => by
 simp [execOp, hρ _ _ hx, hρ _ _ hy, eqGuard, binOp, Op.intCmp]
theorem Zcj (hx : ev l x = some (.int k a)) (hy : ev l y = some (.int k b)) : Qe P l ⟨dst, .binOp .gtr xt x y yt, ty, pos, aft, gd⟩ w (.bool (decide (b < a))) w := fun ρ hρ => by
 simp [execOp, hρ _ _ hx, hρ _ _ hy, eqGuard, binOp, Op.intCmp]
theorem Zgt (hx : ev l x = some (.int k a)) (hy : ev l y = some (.int k b)) : Qe P l ⟨dst, .binOp .geq xt x y yt, ty, pos, aft, gd⟩ w (.bool (decide (b ≤ a))) w := fun ρ hρ => by
 simp [execOp, hρ _ _ hx, hρ _ _ hy, eqGuard, binOp, Op.intCmp]
theorem Qg (hx : ev l x = some (.int k a)) (hy : ev l y = some (.int k b)) : Qe P l ⟨dst, .binOp .eql xt x y yt, ty, pos, aft, gd⟩ w (.bool (decide (a = b))) w := fun ρ hρ => by
 have e : (a == b) = decide (a = b) := by by_cases h : a = b <;> simp [h]
 simp [execOp, hρ _ _ hx, hρ _ _ hy, eqGuard, binOp, Op.intCmp, e]
theorem Zfn (hx : ev l x = some (.int k a)) (hy : ev l y = some (.int k b)) : Qe P l ⟨dst, .binOp .neq xt x y yt, ty, pos, aft, gd⟩ w (.bool (!decide (a = b))) w := fun ρ hρ => by
 have e : (a != b) = !decide (a = b) := by by_cases h : a = b <;> simp [h]
 simp [execOp, hρ _ _ hx, hρ _ _ hy, eqGuard, binOp, Op.intCmp, e]
theorem Zkr (hx : ev l x = some (.int k a)) (hy : ev l y = some (.int k b)) : Qe P l ⟨dst, .binOp .add xt x y yt, ty, pos, aft, gd⟩ w (.int k (k.wrap (a + b))) w := fun ρ hρ => by
 simp [execOp, hρ _ _ hx, hρ _ _ hy, eqGuard, binOp, Op.intArith]
theorem Zmy (hx : ev l x = some (.int k a)) (hy : ev l y = some (.int k b)) : Qe P l ⟨dst, .binOp .sub xt x y yt, ty, pos, aft, gd⟩ w (.int k (k.wrap (a - b))) w := fun ρ hρ => by
 simp [execOp, hρ _ _ hx, hρ _ _ hy, eqGuard, binOp, Op.intArith]
theorem Zkk (hx : ev l x = some (.int k a)) (hy : ev l y = some (.int k b)) : Qe P l ⟨dst, .binOp .mul xt x y yt, ty, pos, aft, gd⟩ w (.int k (k.wrap (a * b))) w := fun ρ hρ => by
 simp [execOp, hρ _ _ hx, hρ _ _ hy, eqGuard, binOp, Op.intArith]
theorem Xc (h : -9223372036854775808 ≤ a + b ∧ a + b ≤ 9223372036854775807) (hx : ev l x = some (.int .i64 a)) (hy : ev l y = some (.int .i64 b)) : Qe P l ⟨dst, .binOp .add xt x y yt, ty, pos, aft, gd⟩ w (.int .i64 (a + b)) w := by
 have := Zkr (P := P) (w := w) (dst := dst) (xt := xt) (yt := yt) (ty := ty) (pos := pos) (aft := aft) (gd := gd) hx hy
 rwa [IntWalk.i64_in _ h] at this
theorem Xe (h : -9223372036854775808 ≤ a - b ∧ a - b ≤ 9223372036854775807) (hx : ev l x = some (.int .i64 a)) (hy : ev l y = some (.int .i64 b)) : Qe P l ⟨dst, .binOp .sub xt x y yt, ty, pos, aft, gd⟩ w (.int .i64 (a - b)) w := by
 have := Zmy (P := P) (w := w) (dst := dst) (xt := xt) (yt := yt) (ty := ty) (pos := pos) (aft := aft) (gd := gd) hx hy
 rwa [IntWalk.i64_in _ h] at this
theorem Zkv (h : -9223372036854775808 ≤ a * b ∧ a * b ≤ 9223372036854775807) (hx : ev l x = some (.int .i64 a)) (hy : ev l y = some (.int .i64 b)) : Qe P l ⟨dst, .binOp .mul xt x y yt, ty, pos, aft, gd⟩ w (.int .i64 (a * b)) w := by
 have := Zkk (P := P) (w := w) (dst := dst) (xt := xt) (yt := yt) (ty := ty) (pos := pos) (aft := aft) (gd := gd) hx hy
 rwa [IntWalk.i64_in _ h] at this
theorem Zgj {src d : TypeId} (hs : (P.underlying src).isSome = true) (hd : P.underlying d = some (.int k)) {k' : IntKind} (hx : ev l x = some (.int k' a)) :
   Qe P l ⟨dst, .convert src d x, ty, pos, aft, gd⟩ w (.int k (k.wrap a)) w := fun ρ hρ => by
 obtain ⟨d', hd'⟩ := Option.isSome_iff_exists.mp hs
 simp [execOp, hρ _ _ hx, convert, run_underlying hd', run_underlying hd, Conv.intToInt]
theorem Zfg {t : TypeId} {p q : Bool} (ht : P.underlying t = some .bool) : (Op.equal t (.bool p) (.bool q)).run P w = .ok (p == q) w := by
 have e : ∀ d, (Op.equalIn (d + 1) t (.bool p) (.bool q)).run P w = .ok (p == q) w := fun d => by
  simp [Op.equalIn, run_underlying ht]
 exact e 9999
theorem Zio {p q : Bool} (ht : P.underlying xt = some .bool) (hx : ev l x = some (.bool p)) (hy : ev l y = some (.bool q)) : Qe P l ⟨dst, .binOp .neq xt x y yt, ty, pos, aft, gd⟩ w (.bool (!(p == q))) w := fun ρ hρ => by
 have e : binOp .neq xt (.bool p) (.bool q) = (do pure (.bool (!(← Op.equal xt (.bool p) (.bool q))))) := rfl
 simp [execOp, hρ _ _ hx, hρ _ _ hy, eqGuard, e, Zfg ht]
end
theorem Yr {x : Operand} {t : TypeId} {A : Option Addr} {n c : Nat} (ht : (elB P t).isSome = true) (h : ev l x = some (.slice A n c)) :
   Qe P l ⟨dst, .call { callee := .builtin .len, args := #[x], argTypes := #[t] }, ty, pos, aft, gd⟩ w (.int .i64 n) w := fun ρ hρ => by
 obtain ⟨e, he⟩ := Option.isSome_iff_exists.mp ht
 simp [execOp, resolve, invoke, builtin, Builtin.len_, run_underlying (Zab he), hρ _ _ h, goInt]
theorem Zjd {x ix : Operand} {t e : TypeId} {k n L B : Nat} {v : Value} {xs : List Value} {i : Int} {q : IntKind} (hs : Sl w L B k v n xs) (ht : elB P t = some e) (hk : Ya P e = some k)
   (hx : ev l x = some v) (hi : ev l ix = some (.int q i)) (h0 : 0 ≤ i) (h1 : i < n) :
   ∃ p, (∀ w', Qe P l ⟨dst, .indexAddr t x ix, ty, pos, aft, gd⟩ w' (.pointer (some p)) w') ∧ At w L B p ((xs.drop (i.toNat * k)).take k) := by
 obtain ⟨hl, A, c, rfl, hc, hm, hA⟩ := hs
 obtain ⟨ad, rfl, ha⟩ := hA (by omega)
 refine ⟨ad.add (i.toNat * k), fun w' ρ hρ => ?_, ha.sub _ _⟩
 simp [execOp, hρ _ _ hx, hρ _ _ hi, Instr.indexAt, asIntOf, run_underlying (Zab ht), Qn hk, h0, h1]
theorem Zke {x ix : Operand} {t e : TypeId} {k n : Nat} {v : Value} {xs : List Value} {i : Int} {q : IntKind} {e' : TypeId} (hs : Ow w e' k v n xs) (ht : elB P t = some e) (hk : Ya P e = some k)
   (hx : ev l x = some v) (hi : ev l ix = some (.int q i)) (h0 : 0 ≤ i) (h1 : i < n) :
   ∃ g off cap, v = .slice (some ⟨g, off, none⟩) n cap ∧ ∀ w', Qe P l ⟨dst, .indexAddr t x ix, ty, pos, aft, gd⟩ w' (.pointer (some ⟨g, off + i.toNat * k, none⟩)) w' := by
 rcases hs.2 with ⟨rfl, rfl⟩ | ⟨g, off, cap, cur, rfl, _⟩
 ·omega
 refine ⟨g, off, cap, rfl, fun w' ρ hρ => ?_⟩
 simp [execOp, hρ _ _ hx, hρ _ _ hi, Instr.indexAt, asIntOf, run_underlying (Zab ht), Qn hk, h0, h1, add_lit]
theorem Zni {x : Operand} {t : TypeId} {v : Value} (h : ev l x = some v) :
   ∃ b w', Qe P l ⟨dst, .box t x, ty, pos, aft, gd⟩ w (.pointer (some ⟨b, 0, none⟩)) w' ∧ Blk w' b t v.cells.toList ∧ Ch [] w w' ∧ b = w.heap.size := by
 refine ⟨w.heap.size, w.alloc (.cells v.cells.toList.toArray t), fun ρ hρ => ?_, Blk.new w t _, Ch.alloc w _, rfl⟩
 simp [execOp, hρ _ _ h, Instr.box, newVar, newRow]
theorem Zlt {t : TypeId} {z : Value} (hz : Yw P t = some z) :
   ∃ b w', Qe P l ⟨dst, .alloc t, ty, pos, aft, gd⟩ w (.pointer (some ⟨b, 0, none⟩)) w' ∧ Blk w' b t z.cells.toList ∧ Ch [] w w' ∧ b = w.heap.size := by
 refine ⟨w.heap.size, w.alloc (.cells z.cells.toList.toArray t), fun ρ _ => ?_, Blk.new w t _, Ch.alloc w _, rfl⟩
 simp [execOp, Instr.alloc, Zdn hz, newVar, newRow]
theorem Zjz {a x : Operand} {t t' : TypeId} {b off : Nat} {cs : List Value} {v : Value} (hb : Blk w b t' cs) (ht : Ya P t = some 1) (h1 : v.oneCell' = true)
   (ha : ev l a = some (.pointer (some (Addr.add ⟨b, 0, none⟩ off)))) (hx : ev l x = some v) (ho : Nat.blt off cs.length = true) :
   ∃ w', Zju P l ⟨dst, .store t a x, ty, pos, aft, gd⟩ w w' ∧ Blk w' b t' (cs.set off v) ∧ Ch [b] w w' := by
 have hlt : off < cs.length := by simpa [Nat.blt_eq] using ho
 refine ⟨w.setCell ⟨b, off, none⟩ v, fun ρ hρ => ?_, hb.set off v, Ch.setCell w ⟨b, off, none⟩ v⟩
 have hvc : v.cells = #[v] := by cases v <;> simp_all [Value.oneCell', Value.cells]
 have hst : (store (Addr.add (Addr.add ⟨b, 0, none⟩ off) 0) v).run P w = .ok () (w.setCell ⟨b, off, none⟩ v) := by
  rw [add_add, add_lit, run_store P w _ v _ h1]
  simp only [Nat.zero_add, Nat.add_zero]
  rw [hb.cell off, hb.frozen off, List.getElem?_eq_getElem hlt]
  rfl
 simp [execOp, hρ _ _ ha, hρ _ _ hx, Instr.storeAt, Instr.sureAddr, storeVar, hvc, Qn ht, storeCells, hst]
theorem Zaf {w : World} {g : Nat} {cur cs : Array Value} {t : TypeId} (hg : w.heap[g]? = some (.cells cur t (0, 0))) : (w.setRow g cs).heap[g]? = some (.cells cs t (0, 0)) := setRow_heap w g cur cs t _ hg
theorem Ch.setRow (w : World) (g : Nat) (cs : Array Value) : Ch [g] w (w.setRow g cs) := ⟨rfl, rfl, rfl, by simp, fun k _ hn => setRow_other w g k _ (by simpa using hn)⟩
theorem Zkh {a x : Operand} {t t' : TypeId} {b off : Nat} {cs us : List Value} (hb : Blk w b t' cs) (ht : Ya P t = some us.length) (h1 : us.all Value.oneCell' = true)
   (ha : ev l a = some (.pointer (some (Addr.add ⟨b, 0, none⟩ off)))) (hx : ev l x = some (.agg us.toArray)) (ho : Nat.ble (off + us.length) cs.length = true) :
   ∃ w', Zju P l ⟨dst, .store t a x, ty, pos, aft, gd⟩ w w' ∧ Blk w' b t' (cs.take off ++ us ++ cs.drop (off + us.length)) ∧ Ch [b] w w' := by
 have hle : off + us.length ≤ cs.length := Nat.le_of_ble_eq_true ho
 have hst := run_storeCells_at (P := P) b off t' us 0 cs.toArray w hb (by simpa using hle) (by simpa using h1)
 refine ⟨w.setRow b (cs.take off ++ us ++ cs.drop (off + us.length)).toArray, fun ρ hρ => ?_, Zaf hb, Ch.setRow w b _⟩
 simp only [Nat.add_zero] at hst
 simp [execOp, hρ _ _ ha, hρ _ _ hx, Instr.storeAt, Instr.sureAddr, storeVar, Value.cells, Qn ht, add_lit, hst]
theorem Zjx {a x : Operand} {t e : TypeId} {g off cap n k j : Nat} {v : Value} {xs us : List Value} (hs : Ow w e k v n xs) (hv : v = .slice (some ⟨g, off, none⟩) n cap) (hu : us.length = k) (ht : Ya P t = some k) (h1 : us.all Value.oneCell' = true)
   (ha : ev l a = some (.pointer (some ⟨g, off + j * k, none⟩))) (hx : ∃ u, ev l x = some u ∧ u.cells = us.toArray) (hj : j < n) :
   ∃ w', Zju P l ⟨dst, .store t a x, ty, pos, aft, gd⟩ w w' ∧ Ow w' e k v n (xs.take (j * k) ++ us ++ xs.drop (j * k + k)) ∧ Ch [g] w w' := by
 obtain ⟨u, hxu, hcells⟩ := hx
 rcases hs.2 with ⟨rfl, _⟩ | ⟨g', off', cap', cur, rfl, hg, hn, hm, hc, htk⟩
 ·cases hv
 injection hv with h1' _ h3
 injection h1' with h1'
 injection h1' with h1' h2'
 subst h1' h2' h3
 have hjk : j * k + k ≤ n * k := by rw [← Nat.succ_mul]; exact Nat.mul_le_mul_right _ hj
 have hnk : n * k ≤ cap' * k := Nat.mul_le_mul_right _ hn
 have hst := run_storeCells_at (P := P) g' (off' + j * k) e us 0 cur w hg (by omega) (by simpa using h1)
 refine ⟨w.setRow g' (cur.toList.take (off' + j * k) ++ us ++ cur.toList.drop (off' + j * k + us.length)).toArray, fun ρ hρ => ?_, ⟨?_, .inr ⟨g', off', cap', _, rfl, Zaf hg, hn, hm, ?_, ?_⟩⟩, Ch.setRow w g' _⟩
 ·simp only [Nat.add_zero] at hst
  simp [execOp, hρ _ _ ha, hρ _ _ hxu, Instr.storeAt, Instr.sureAddr, storeVar, hcells, hu, Qn ht, hst]
 ·have hl := hs.1
  simp only [List.length_append, List.length_take, List.length_drop, hu, hl]
  omega
 ·simp only [List.size_toArray, List.length_append, List.length_take, List.length_drop, Array.length_toList]
  omega
 have hcl : off' + cap' * k ≤ cur.toList.length := by simpa using hc
 apply List.ext_getElem?
 intro i
 have hxl := hs.1
 rw [← htk]
 simp only [List.getElem?_take, List.getElem?_drop, List.getElem?_append, List.length_append, List.length_take, List.length_drop, hu]
 have e1 : min (off' + j * k) cur.toList.length = off' + j * k := by omega
 have e2 : min (j * k) (min (n * k) (cur.toList.length - off')) = j * k := by omega
 rw [e1, e2]
 by_cases hi : i < n * k
 ·rw [if_pos hi]
  by_cases h1 : i < j * k
  ·rw [if_pos (by omega), if_pos (by omega), if_pos (by omega), if_pos (by omega), if_pos h1, if_pos hi, if_pos h1]
  by_cases h2 : i < j * k + k
  ·rw [if_pos (by omega), if_neg (by omega), if_pos (by omega), if_neg (by omega)]
   congr 1
   omega
  rw [if_neg (by omega), if_neg (by omega), if_pos (by omega)]
  congr 1
  omega
 rw [if_neg hi, if_neg (by omega), if_neg (by omega)]
end
end Go.KLib

namespace Go.KLib
def evs (l : KL) : List Operand → Option (List Value)
 | [] => some []
 | x :: xs => match ev l x, evs l xs with
  | some v, some vs => some (v :: vs)
  | _, _ => none
theorem Zey {l : KL} {ρ : Operand → Value} (hρ : ∀ x u, ev l x = some u → ρ x = u) : ∀ (xs : List Operand) (vs : List Value), evs l xs = some vs → xs.map ρ = vs
 | [], vs, h => by simp [evs] at h; simp [h]
 | x :: xs, vs, h => by
  simp only [evs] at h
  cases h1 : ev l x with
  | none => simp [h1] at h
  | some u =>
   cases h2 : evs l xs with
   | none => simp [h1, h2] at h
   | some us =>
    simp [h1, h2] at h
    rw [List.map_cons, hρ x u h1, Zey hρ xs us h2, h]
def fnB (P : Program) (f : FuncId) : Bool :=
 match P.funcs[f]? with
 | some fn => !(fn.name == "runtime.NumGoroutine") && fn.body.isSome
 | none => false
section
variable {P : Program} {w : World} {l : KL} {dst : Option Tmp} {ty : TypeId} {pos : String} {aft : Array Edge} {gd : Option (Nat × Bool)}
theorem Zej {f : FuncId} (h : fnB P f = true) (args : Array Value) : (callFunc f args).run P w = .ok (.enter f args) w := by
 unfold fnB at h
 cases hf : P.funcs[f]? with
 | none => simp [hf] at h
 | some fn =>
  simp only [hf, Bool.and_eq_true, Bool.not_eq_true'] at h
  have hb : fn.body ≠ none := by intro hn; rw [hn] at h; simp at h
  have hnm : fn.name ≠ "runtime.NumGoroutine" := by simpa using h.1
  simp [callFunc, hf, hnm, hb]
theorem Zm {f : FuncId} {xs : List Operand} {vs : List Value} {ts : Array TypeId} (hf : fnB P f = true) (hx : evs l xs = some vs) :
   Zkw P l ⟨dst, .call { callee := .value (.func f), args := xs.toArray, argTypes := ts }, ty, pos, aft, gd⟩ w f vs.toArray := fun ρ hρ => by
 have h1 : ρ (.func f) = .func (.func f) #[] #[] := hρ _ _ rfl
 have h2 := Zey hρ xs vs hx
 simp [execOp, resolve, h1, h2, Deferred.ofValue, invoke, Zej hf]
theorem Ziv {f : FuncId} {t : Nat} {first captured : Array Value} {xs : List Operand} {vs as' : List Value} {ts : Array TypeId} (hf : fnB P f = true) (ht : look l t = some (.func (.func f) first captured)) (hx : evs l xs = some vs) (ha : first.toList ++ vs ++ captured.toList = as') :
   Zkw P l ⟨dst, .call { callee := .value (.tmp t), args := xs.toArray, argTypes := ts }, ty, pos, aft, gd⟩ w f as'.toArray := fun ρ hρ => by
 have h1 : ρ (.tmp t) = _ := hρ (.tmp t) _ ht
 have h2 := Zey hρ xs vs hx
 have h3 : first ++ vs.toArray ++ captured = as'.toArray := by rw [← ha]; simp
 simp [execOp, resolve, h1, h2, Deferred.ofValue, invoke, Zej hf]
 simpa using h3
theorem Zib {fn : Fn} {xs ys : List Operand} {vs us : List Value} (hx : evs l xs = some vs) (hy : evs l ys = some us) :
   Qe P l ⟨dst, .makeFunc fn xs.toArray ys.toArray, ty, pos, aft, gd⟩ w (.func fn vs.toArray us.toArray) w := fun ρ hρ => by
 simp [execOp, Instr.makeFunc, Zey hρ xs vs hx, Zey hρ ys us hy]
variable {K : Value → World → Prop}
theorem s_v {o : Oper} {v : Value} (hr : Qe P l o w v w) (h : K v w) : Step P l o w K := Step.of hr h
theorem Xm {x : Operand} {t : TypeId} {v : Value} (h : ev l x = some v) (k : ∀ b w', Blk w' b t v.cells.toList → Ch [] w w' → b = w.heap.size → K (.pointer (some ⟨b, 0, none⟩)) w') :
   Step P l ⟨dst, .box t x, ty, pos, aft, gd⟩ w K := by
 obtain ⟨b, w', hr, h1, h2, h3⟩ := Zni (P := P) (w := w) (dst := dst) (t := t) (ty := ty) (pos := pos) (aft := aft) (gd := gd) h
 exact Step.of hr (k b w' h1 h2 h3)
theorem Yd {t : TypeId} {z : Value} (hz : Yw P t = some z) (k : ∀ b w', Blk w' b t z.cells.toList → Ch [] w w' → b = w.heap.size → K (.pointer (some ⟨b, 0, none⟩)) w') :
   Step P l ⟨dst, .alloc t, ty, pos, aft, gd⟩ w K := by
 obtain ⟨b, w', hr, h1, h2, h3⟩ := Zlt (P := P) (w := w) (l := l) (dst := dst) (ty := ty) (pos := pos) (aft := aft) (gd := gd) hz
 exact Step.of hr (k b w' h1 h2 h3)
theorem Zy {a x : Operand} {t t' : TypeId} {b off : Nat} {cs : List Value} {v : Value} (hb : Blk w b t' cs) (ht : Ya P t = some 1)
   (ha : ev l a = some (.pointer (some (Addr.add ⟨b, 0, none⟩ off)))) (hx : ev l x = some v) (h1 : v.oneCell' = true) (ho : Nat.blt off cs.length = true)
   (k : ∀ w', Blk w' b t' (cs.set off v) → Ch [b] w w' → K undef w') : Step P l ⟨dst, .store t a x, ty, pos, aft, gd⟩ w K := by
 obtain ⟨w', hr, h2, h3⟩ := Zjz (P := P) (w := w) (dst := dst) (ty := ty) (pos := pos) (aft := aft) (gd := gd) hb ht h1 ha hx ho
 exact Step.ofU hr (k w' h2 h3)
theorem Zk {a x : Operand} {t t' : TypeId} {b off : Nat} {cs us : List Value} (n : Nat) (hb : Blk w b t' cs) (ht : Ya P t = some n)
   (ha : ev l a = some (.pointer (some (Addr.add ⟨b, 0, none⟩ off)))) (hx : ev l x = some (.agg us.toArray)) (hn : us.length = n) (h1 : us.all Value.oneCell' = true) (ho : Nat.ble (off + us.length) cs.length = true)
   (k : ∀ w', Blk w' b t' (cs.take off ++ us ++ cs.drop (off + us.length)) → Ch [b] w w' → K undef w') : Step P l ⟨dst, .store t a x, ty, pos, aft, gd⟩ w K := by
 obtain ⟨w', hr, h2, h3⟩ := Zkh (P := P) (w := w) (dst := dst) (ty := ty) (pos := pos) (aft := aft) (gd := gd) hb (by rw [hn]; exact ht) h1 ha hx ho
 exact Step.ofU hr (k w' h2 h3)
theorem Zdf {α : Type} {cs : α → List Value} {k : Nat} (hc : ∀ x, (cs x).length = k) : ∀ (xs : List α) (i : Nat) (x : α), xs[i]? = some x → ((xs.flatMap cs).drop (i * k)).take k = cs x
 | [], i, x, h => by simp at h
 | y :: ys, 0, x, h => by
  simp at h
  subst h
  simp only [List.flatMap_cons, Nat.zero_mul, List.drop_zero]
  rw [← hc y, List.take_left]
 | y :: ys, i + 1, x, h => by
  have ih := Zdf hc ys i x (by simpa using h)
  simp only [List.flatMap_cons]
  rw [Nat.succ_mul, Nat.add_comm (i * k) k, ← List.drop_drop]
  conv => lhs; rw [← hc y]
  rw [List.drop_left, hc y]
  exact ih
theorem flat_len {α : Type} {cs : α → List Value} {k : Nat} (hc : ∀ x, (cs x).length = k) (xs : List α) : (xs.flatMap cs).length = xs.length * k := by
 induction xs with
 | nil => simp
 | cons x xs ih => simp [hc, ih, Nat.succ_mul, Nat.add_comm]
def Ls {α : Type} (cs : α → List Value) (k : Nat) (w : World) (L B : Nat) (v : Value) (xs : List α) : Prop := Sl w L B k v xs.length (xs.flatMap cs)
def Ol {α : Type} (cs : α → List Value) (e k : Nat) (w : World) (v : Value) (xs : List α) : Prop := Ow w e k v xs.length (xs.flatMap cs)
section
variable {α : Type} {cs : α → List Value} {e k L L' B B' : Nat} {v : Value} {xs : List α} {w' : World} {ws : List Nat}
theorem Ls.ch (h : Ls cs k w L B v xs) (c : Ch ws w w') (hw : ∀ i ∈ ws, i < L ∨ B ≤ i) : Ls cs k w' L B v xs := Sl.ch h c hw
theorem Ls.ch0 (h : Ls cs k w L B v xs) (c : Ch [] w w') : Ls cs k w' L B v xs := Sl.ch0 h c
theorem Ls.up (h : Ls cs k w L B v xs) (hL : L' ≤ L) (hB : B ≤ B') : Ls cs k w L' B' v xs := Sl.up h hL hB
theorem Ls.here (h : Ls cs k w L B v xs) (hk : 0 < k) : Ls cs k w L w.heap.size v xs := Sl.here h hk
theorem Ls.eq {ys : List α} (h : Ls cs k w L B v xs) (he : xs = ys) : Ls cs k w L B v ys := by subst he; exact h
theorem Ol.eq {ys : List α} (h : Ol cs e k w v xs) (he : xs = ys) : Ol cs e k w v ys := by subst he; exact h
theorem Ls.nil (w : World) (L B : Nat) : Ls cs k w L B (.slice none 0 0) ([] : List α) := Sl.nil w L B k
theorem Ls.len (h : Ls cs k w L B v xs) : xs.length ≤ 9223372036854775807 := Sl.len_le h
theorem Ls.val (h : Ls cs k w L B v xs) : ∃ A c, v = .slice A xs.length c := by obtain ⟨_, A, c, hv, _⟩ := h; exact ⟨A, c, hv⟩
theorem Ol.ch (h : Ol cs e k w v xs) (c : Ch ws w w') (hn : ∀ g ∈ bl v, g ∉ ws) : Ol cs e k w' v xs := Ow.ch h c hn
theorem Ol.ch0 (h : Ol cs e k w v xs) (c : Ch [] w w') : Ol cs e k w' v xs := Ow.ch0 h c
theorem Ol.ls (h : Ol cs e k w v xs) : Ls cs k w 0 w.heap.size v xs := Ow.sl h
theorem Ol.lt (h : Ol cs e k w v xs) : ∀ g ∈ bl v, g < w.heap.size := Ow.lt h
theorem Ol.nil (w : World) : Ol cs e k w (.slice none 0 0) ([] : List α) := Ow.nil w e k
theorem Ol.len (h : Ol cs e k w v xs) : xs.length ≤ 9223372036854775807 := Ow.len_le h
theorem Ol.val (h : Ol cs e k w v xs) : ∃ A c, v = .slice A xs.length c := h.ls.val
theorem Qm {x ix : Operand} {t : TypeId} {j : Nat} {i : Int} {q : IntKind} (hs : Ls cs k w L B v xs) (hc : ∀ x, (cs x).length = k) (ht : elB P t = some e) (hk : Ya P e = some k)
   (hx : ev l x = some v) (hi : ev l ix = some (.int q i)) (hj : i = (j : Int)) (h1 : j < xs.length)
   (kk : ∀ p y, xs[j]? = some y → At w L B p (cs y) → K (.pointer (some p)) w) : Step P l ⟨dst, .indexAddr t x ix, ty, pos, aft, gd⟩ w K := by
 subst hj
 obtain ⟨p, hr, ha⟩ := Zjd (P := P) (dst := dst) (ty := ty) (pos := pos) (aft := aft) (gd := gd) hs ht hk hx hi (by omega) (by omega)
 have hy : xs[j]? = some xs[j] := List.getElem?_eq_getElem h1
 rw [Int.toNat_natCast, Zdf hc xs j _ hy] at ha
 exact Step.of (hr w) (kk p _ hy ha)
theorem Xh {S : World → Prop} {G : Value → Prop} {w0 : World} {x ix : Operand} {t : TypeId} {j : Nat} {i : Int} {q : IntKind} (hs : Ls cs k w0 L B v xs) (hc : ∀ x, (cs x).length = k) (ht : elB P t = some e) (hk : Ya P e = some k)
   (hx : ev l x = some v) (hi : ev l ix = some (.int q i)) (hj : i = (j : Int)) (h1 : j < xs.length)
   (kk : ∀ p y, xs[j]? = some y → At w0 L B p (cs y) → G (.pointer (some p))) : Tk P S l ⟨dst, .indexAddr t x ix, ty, pos, aft, gd⟩ G := by
 subst hj
 obtain ⟨p, hr, ha⟩ := Zjd (P := P) (dst := dst) (ty := ty) (pos := pos) (aft := aft) (gd := gd) hs ht hk hx hi (by omega) (by omega)
 have hy : xs[j]? = some xs[j] := List.getElem?_eq_getElem h1
 rw [Int.toNat_natCast, Zdf hc xs j _ hy] at ha
 exact Tk.of (fun w' _ => hr w') (kk p _ hy ha)
end
theorem t_v {S : World → Prop} {G : Value → Prop} {o : Oper} {v : Value} (h : ∀ w, Qe P l o w v w) (hG : G v) : Tk P S l o G := Tk.of (fun w _ => h w) hG
theorem Yi {ws : List Nat} {w0 : World} {G : Value → Prop} {x : Operand} {t : TypeId} {p : Addr} {L B off : Nat} {cs : List Value} {v : Value} (ha : At w0 L B p cs) (hw : ∀ k ∈ ws, k < L ∨ B ≤ k) (ht : Yk P t = some false)
   (h : ev l x = some (.pointer (some (p.add off)))) (hv : cs[off]? = some v) (hG : G v) : Tk P (Ch ws w0) l ⟨dst, .load t x, ty, pos, aft, gd⟩ G :=
 Tk.of (fun _ c => Zp (ha.ch c hw) ht h hv) hG
theorem Zbt {ws : List Nat} {w0 : World} {G : Value → Prop} {x : Operand} {t : TypeId} {p : Addr} {L B : Nat} {cs : List Value} {v : Value} (ha : At w0 L B p cs) (hw : ∀ k ∈ ws, k < L ∨ B ≤ k) (ht : Yk P t = some false)
   (h : ev l x = some (.pointer (some p))) (hv : cs[0]? = some v) (hG : G v) : Tk P (Ch ws w0) l ⟨dst, .load t x, ty, pos, aft, gd⟩ G :=
 Tk.of (fun _ c => Zce (ha.ch c hw) ht h hv) hG
theorem Ye {ws : List Nat} {w0 : World} {G : Value → Prop} {x : Operand} {t : TypeId} {p : Addr} {L B : Nat} {cs : List Value} (ha : At w0 L B p cs) (hw : ∀ k ∈ ws, k < L ∨ B ≤ k) (ht : Yk P t = some true) (hz : Ya P t = some cs.length)
   (h : ev l x = some (.pointer (some p))) (hG : G (.agg cs.toArray)) : Tk P (Ch ws w0) l ⟨dst, .load t x, ty, pos, aft, gd⟩ G :=
 Tk.of (fun _ c => Zi (ha.ch c hw) ht hz h) hG
theorem Zn {t ty : Nat} {b : Nat} {t' : TypeId} {cs : List Value} {rs : List ResultVar} {vs : List Value} (hb : Blk w b t' cs) (hl : look l t = some (.pointer (some ⟨b, 0, none⟩))) (ht : Yk P ty = some true) (hz : Ya P ty = some cs.length)
 (h : Zet P l w rs vs) : Zet P l w (.cell t ty :: rs) (.agg cs.toArray :: vs) := ⟨⟨_, hl, Zgf ht hz hb.at_.2⟩, h⟩
def Zat (P : Program) (t : TypeId) (n : Nat) : Bool :=
 match P.underlying t with
 | some (.struct fs) => fs.size == n && !P.stoodInHeld t && !P.eqGuardType P.depth t && (List.range n).all fun i => match fs[i]? with
  | some f => f.name != "_" && f.offset == i && (match P.underlying f.type with | some (.int .i64) => true | _ => false)
  | none => false
 | _ => false
theorem Zgh {t : TypeId} {cs : Array Value} {i : Nat} {v : Value} (ht : P.underlying t = some (.int .i64)) (h : cs[i]? = some v) : (part t cs i).run P w = .ok v w := by
 simp [part, isAgg, run_underlying ht, h]
theorem Zch (xs ys : List Int) (d : Nat) : ∀ (fs : List Field) (o : Nat), o + fs.length = xs.length → o + fs.length = ys.length → (∀ i f, fs[i]? = some f → f.name ≠ "_" ∧ f.offset = o + i ∧ P.underlying f.type = some (.int .i64)) →
   (Op.eqFields (d + 1) (xs.map (.int .i64)).toArray (ys.map (.int .i64)).toArray fs).run P w = .ok (decide (xs.drop o = ys.drop o)) w
 | [], o, h1, h2, _ => by
  have e1 : xs.drop o = [] := List.drop_eq_nil_of_le (by simp at h1; omega)
  have e2 : ys.drop o = [] := List.drop_eq_nil_of_le (by simp at h2; omega)
  simp [Op.eqFields, e1, e2]
 | f :: fs, o, h1, h2, h => by
  obtain ⟨hn, ho, ht⟩ := h 0 f rfl
  simp only [List.length_cons] at h1 h2
  have hx : o < xs.length := by omega
  have hy : o < ys.length := by omega
  have p1 : ((xs.map (Value.int .i64)).toArray)[f.offset]? = some (.int .i64 xs[o]) := by simp [ho, hx]
  have p2 : ((ys.map (Value.int .i64)).toArray)[f.offset]? = some (.int .i64 ys[o]) := by simp [ho, hy]
  have ih := Zch xs ys d fs (o + 1) (by omega) (by omega) (fun i g hg => by
   obtain ⟨a, b, c⟩ := h (i + 1) g (by simpa using hg)
   exact ⟨a, by omega, c⟩)
  simp only [Op.eqFields, hn, ne_eq, not_false_iff, if_true, Sem.run_bind, Zgh ht p1, Zgh ht p2, Result.andThen_ok, run_equalIn_int w d f.type .i64 .i64 xs[o] ys[o] ht, Sem.run_ite, Sem.run_pure, ih]
  rw [List.drop_eq_getElem_cons hx, List.drop_eq_getElem_cons hy]
  simp only [List.cons.injEq]
  by_cases he : xs[o] = ys[o] <;> simp [he]
theorem Zfj {t : TypeId} (xs ys : List Int) (h : Zat P t xs.length = true) (hl : ys.length = xs.length) :
   (Op.equalIn 10000 t (.agg (xs.map (.int .i64)).toArray) (.agg (ys.map (.int .i64)).toArray)).run P w = .ok (decide (xs = ys)) w ∧ P.eqGuardType P.depth t = false := by
 unfold Zat at h
 cases hu : P.underlying t with
 | none => simp [hu] at h
 | some dd =>
  cases dd with
  | struct fs =>
   simp only [hu, Bool.and_eq_true, Bool.not_eq_true', beq_iff_eq, List.all_eq_true, List.mem_range] at h
   obtain ⟨⟨⟨h1, h2⟩, h3⟩, h4⟩ := h
   have hf : P.fieldsOf t = fs := by simp [Program.fieldsOf, hu]
   rw [run_equalIn_struct w 9999 t _ _ (by rw [hf]; exact hu) h2, hf]
   refine ⟨?_, h3⟩
   have := Zch (P := P) (w := w) xs ys 9998 fs.toList 0 (by simp [h1]) (by simp [h1, hl]) (fun i f hi => by
    have hlt : i < xs.length := by
     have := (List.getElem?_eq_some_iff.1 hi).1
     simp [h1] at this
     exact this
    have hi' : fs[i]? = some f := by simpa using hi
    have := h4 i hlt
    simp only [hi', Bool.and_eq_true, bne_iff_ne, beq_iff_eq] at this
    refine ⟨this.1.1, by omega, ?_⟩
    have h5 := this.2
    split at h5
    ·assumption
    cases h5)
   simpa using this
  | _ => simp [hu] at h
theorem Zmp {x y : Operand} {t yt : TypeId} (xs ys : List Int) (h : Zat P t xs.length = true) (hl : ys.length = xs.length) (hx : ev l x = some (.agg (xs.map (.int .i64)).toArray)) (hy : ev l y = some (.agg (ys.map (.int .i64)).toArray)) :
   Qe P l ⟨dst, .binOp .eql t x y yt, ty, pos, aft, gd⟩ w (.bool (decide (xs = ys))) w := fun ρ hρ => by
 obtain ⟨h1, h2⟩ := Zfj (P := P) (w := w) xs ys h hl
 have hg := run_eqGuard_agg (P := P) w .eql t x y (xs.map (.int .i64)).toArray (ys.map (.int .i64)).toArray h2
 simp only [execOp, hρ _ _ hx, hρ _ _ hy, Sem.run_bind, hg, Result.andThen_ok, run_eql_struct, h1, Sem.run_pure]
theorem Zim {x y : Operand} {t yt : TypeId} (xs ys : List Int) (h : Zat P t xs.length = true) (hl : ys.length = xs.length) (hx : ev l x = some (.agg (xs.map (.int .i64)).toArray)) (hy : ev l y = some (.agg (ys.map (.int .i64)).toArray)) :
   Qe P l ⟨dst, .binOp .neq t x y yt, ty, pos, aft, gd⟩ w (.bool (!decide (xs = ys))) w := fun ρ hρ => by
 obtain ⟨h1, h2⟩ := Zfj (P := P) (w := w) xs ys h hl
 have hg := run_eqGuard_agg (P := P) w .neq t x y (xs.map (.int .i64)).toArray (ys.map (.int .i64)).toArray h2
 simp only [execOp, hρ _ _ hx, hρ _ _ hy, Sem.run_bind, hg, Result.andThen_ok, run_neq_struct, h1, Sem.run_pure]
end
end Go.KLib

namespace Go.KLib
structure Pair where
 f : Int
 t : Int
 deriving DecidableEq
def Pair.cs (p : Pair) : List Value := [.int .i64 p.f, .int .i64 p.t]
theorem Pair.len (p : Pair) : p.cs.length = 2 := rfl
structure Token where
 kind : Int
 letter : Int
 low : Int
 high : Int
 deriving DecidableEq
def Token.cs (p : Token) : List Value := [.int .i64 p.kind, .int .i64 p.letter, .int .i64 p.low, .int .i64 p.high]
theorem Token.len (p : Token) : p.cs.length = 4 := rfl
structure GEdge where
 id : Int
 f : Int
 t : Int
 label : Int
 deriving DecidableEq
def GEdge.cs (p : GEdge) : List Value := [.int .i64 p.id, .int .i64 p.f, .int .i64 p.t, .int .i64 p.label]
theorem GEdge.len (p : GEdge) : p.cs.length = 4 := rfl
def ics (n : Int) : List Value := [.int .i64 n]
theorem Yx (n : Int) : (ics n).length = 1 := rfl
def bcs (b : Bool) : List Value := [.bool b]
theorem Pair.inj {a b : Pair} (h : [a.f, a.t] = [b.f, b.t]) : a = b := by cases a; cases b; simpa using h
theorem Token.inj {a b : Token} (h : [a.kind, a.letter, a.low, a.high] = [b.kind, b.letter, b.low, b.high]) : a = b := by cases a; cases b; simpa using h
theorem GEdge.inj {a b : GEdge} (h : [a.id, a.f, a.t, a.label] = [b.id, b.f, b.t, b.label]) : a = b := by cases a; cases b; simpa using h
section
variable {α : Type} {cs : α → List Value} {e k n : Nat} {v : Value} {xs : List α} {w w' : World} {P : Program} {l : KL} {dst : Option Tmp} {ty : TypeId} {pos : String} {aft : Array Edge} {gd : Option (Nat × Bool)} {K : Value → World → Prop}
theorem Zhr {cs : α → List Value} (hc : ∀ x, (cs x).length = k) : ∀ (xs : List α) (j : Nat) (y : α), j < xs.length → (xs.flatMap cs).take (j * k) ++ cs y ++ (xs.flatMap cs).drop (j * k + k) = (xs.set j y).flatMap cs
 | [], j, y, h => by simp at h
 | x :: xs, 0, y, _ => by
  simp only [List.flatMap_cons, Nat.zero_mul, List.take_zero, List.nil_append, Nat.zero_add, List.set_cons_zero]
  rw [← hc x, List.drop_left]
 | x :: xs, j + 1, y, h => by
  have ih := Zhr hc xs j y (by simpa using h)
  simp only [List.flatMap_cons, List.set_cons_succ]
  rw [← ih, show (j + 1) * k = (cs x).length + j * k from by rw [hc x, Nat.succ_mul, Nat.add_comm], Nat.add_assoc, List.take_length_add_append, List.drop_length_add_append]
  simp [List.append_assoc]
theorem Zjk {z : Value} {z0 : α} (hz : z.cells.toList = cs z0) (hc : ∀ x, (cs x).length = k) (hk : 0 < k) (n : Nat) : (madeCells z.cells (n * k)).toList = (List.replicate n z0).flatMap cs := by
 have hs : z.cells.size = k := by rw [← Array.length_toList, hz, hc]
 induction n with
 | zero => simp [madeCells]
 | succ n ih =>
  rw [List.replicate_succ', List.flatMap_append, ← ih, Nat.succ_mul]
  unfold madeCells
  rw [Array.toList_map, Array.toList_range, List.range_add, List.map_append, Array.toList_map, Array.toList_range]
  congr 1
  simp only [List.flatMap_cons, List.flatMap_nil, List.append_nil, List.map_map]
  rw [← hz]
  apply List.ext_getElem?
  intro i
  by_cases hi : i < k
  ·have hi' : i < z.cells.size := by omega
   simp [hs, Nat.mul_add_mod_of_lt, Nat.add_mod, Nat.mod_eq_of_lt hi, hi, hi']
  simp [hs, hi]
theorem Zhm {x ix : Operand} {t e' : TypeId} {j : Nat} {i : Int} {q : IntKind} (hs : Ol cs e' k w v xs) (ht : elB P t = some e) (hk : Ya P e = some k)
   (hx : ev l x = some v) (hi : ev l ix = some (.int q i)) (hj : i = (j : Int)) (h1 : j < xs.length)
   (kk : ∀ g off cap, v = .slice (some ⟨g, off, none⟩) xs.length cap → K (.pointer (some ⟨g, off + j * k, none⟩)) w) : Step P l ⟨dst, .indexAddr t x ix, ty, pos, aft, gd⟩ w K := by
 subst hj
 obtain ⟨g, off, cap, hv, hr⟩ := Zke (P := P) (dst := dst) (ty := ty) (pos := pos) (aft := aft) (gd := gd) hs ht hk hx hi (by omega) (by omega)
 exact Step.of (hr w) (kk g off cap hv)
theorem Zhp {a x : Operand} {t : TypeId} {g off cap j : Nat} {u : Value} (y : α) (hs : Ol cs e k w v xs) (hv : v = .slice (some ⟨g, off, none⟩) xs.length cap) (hc : ∀ x, (cs x).length = k) (ht : Ya P t = some k)
   (ha : ev l a = some (.pointer (some ⟨g, off + j * k, none⟩))) (hx : ev l x = some u) (hu : u.cells.toList = cs y) (h1 : (cs y).all Value.oneCell' = true) (hj : j < xs.length)
   (kk : ∀ w', Ol cs e k w' v (xs.set j y) → Ch (bl v) w w' → K undef w') : Step P l ⟨dst, .store t a x, ty, pos, aft, gd⟩ w K := by
 obtain ⟨w', hr, ho, hch⟩ := Zjx (P := P) (dst := dst) (ty := ty) (pos := pos) (aft := aft) (gd := gd) hs hv (hc y) ht h1 ha ⟨u, hx, by rw [← hu]⟩ hj
 rw [Zhr hc xs j y hj] at ho
 refine Step.ofU hr (kk w' ⟨by simpa using ho.1, by simpa using ho.2⟩ ?_)
 subst hv
 exact hch
theorem Zhf {xs : List α} {j : Nat} (h : j < xs.length) : ∃ y, xs[j]? = some y := ⟨_, List.getElem?_eq_getElem h⟩
end
theorem Zbk {α : Type} {xs ys : List α} {k : Nat} (h : xs.take k = ys.take k) {x y : α} (hx : xs[k]? = some x) (hy : ys[k]? = some y) (he : x = y) : xs.take (k + 1) = ys.take (k + 1) := by
 rw [List.take_add_one, List.take_add_one, hx, hy, h, he]
theorem Zbf {α : Type} {xs ys : List α} {k : Nat} (h : xs.take k = ys.take k) (h1 : xs.length ≤ k) (h2 : ys.length = xs.length) : xs = ys := by
 rwa [List.take_of_length_le h1, List.take_of_length_le (by omega)] at h
theorem Zbu {α : Type} {xs ys : List α} {k : Nat} {x y : α} (hx : xs[k]? = some x) (hy : ys[k]? = some y) (he : ¬ x = y) : ¬ xs = ys := by
 rintro rfl
 rw [hx] at hy
 injection hy with hy
 exact he hy
theorem Zea {α : Type} (a : List α) (f : Nat → α) {k : Nat} (hk : k < a.length) : ((List.range k).map f ++ a.drop k).set k (f k) = (List.range (k + 1)).map f ++ a.drop (k + 1) := by
 rw [List.range_succ, List.map_append, List.set_append_right _ _ (by simp)]
 rw [List.drop_eq_getElem_cons hk]
 simp only [List.length_map, List.length_range, Nat.sub_self, List.set_cons_zero, List.map_cons, List.map_nil, List.append_assoc, List.singleton_append]
def Zge (k : Int) (n : Nat) : List Pair := (List.range n).map fun (i : Nat) => ⟨k + 2 * i, k + 2 * i + 1⟩
def Zjg (k : Int) (n : Nat) : List Token := (List.range n).map fun (i : Nat) => ⟨k + 4 * i, k + 4 * i + 1, k + 4 * i + 2, k + 4 * i + 3⟩
def Zji (k : Int) (n : Nat) : List GEdge := (List.range n).map fun (i : Nat) => ⟨k + 4 * i, k + 4 * i + 1, k + 4 * i + 2, k + 4 * i + 3⟩
def Zmh (k : Int) (n : Nat) : List Int := (List.range n).map fun (i : Nat) => k + i
@[simp] theorem mkPair_len (k : Int) (n : Nat) : (Zge k n).length = n := by simp [Zge]
@[simp] theorem mkToken_len (k : Int) (n : Nat) : (Zjg k n).length = n := by simp [Zjg]
@[simp] theorem mkGEdge_len (k : Int) (n : Nat) : (Zji k n).length = n := by simp [Zji]
@[simp] theorem mkInt_len (k : Int) (n : Nat) : (Zmh k n).length = n := by simp [Zmh]
theorem Zly (a : List Pair) {i : Nat} (hi : i < a.length) {kk k : Int} (h : kk = k + 2 * i) : (Zge k i ++ a.drop i).set i ⟨kk, kk + 1⟩ = Zge k (i + 1) ++ a.drop (i + 1) := by
 subst h
 have h2 := Zea a (fun (q : Nat) => (⟨k + 2 * q, k + 2 * q + 1⟩ : Pair)) hi
 unfold Zge
 refine Eq.trans (congrArg _ ?_) h2
 simp only [Int.add_assoc]
 all_goals rfl
end Go.KLib

namespace Go.KLib
open Go.ChangeShapes Go.WideShapes Go.ChangeAt Go.RowKit Go.Deep Go.Joins
section
variable {H : Type} {enc : TypeId × Value → H} {P : Program} {w : World} {base : Nat} {spare : Nat → Bool} {held : Bool}
theorem Zlu {α : Type} {n : Nat} {Q : Nat → α → Prop} (h : ∀ i, i < n → ∃ x, Q i x) : ∃ xs : List α, xs.length = n ∧ ∀ i x, xs[i]? = some x → Q i x := by
 induction n with
 | zero => exact ⟨[], rfl, fun i x hx => by simp at hx⟩
 | succ n ih =>
  obtain ⟨xs, hl, hq⟩ := ih fun i hi => h i (by omega)
  obtain ⟨x, hx⟩ := h n (by omega)
  refine ⟨xs ++ [x], by simp [hl], fun i y hy => ?_⟩
  rcases Nat.lt_or_ge i xs.length with hi | hi
  ·exact hq i y (by rwa [List.getElem?_append_left hi] at hy)
  have hlt := (List.getElem?_eq_some_iff.1 hy).1
  simp at hlt
  have : i = n := by omega
  subst this
  rw [List.getElem?_append_right hi, hl, Nat.sub_self] at hy
  simp at hy
  subst hy
  exact hx
theorem Zle {α : Type} {cs : α → List Value} {k : Nat} {t e : TypeId} {fuel : Nat} {v : Value} {x : DataW H × List MemPlace} (ht : P.underlying t = some (.slice e)) (hk : P.cellsOf e = k) (hk0 : 0 < k) (hc : ∀ x, (cs x).length = k)
   (he : ∀ fuel vs y, vs.length = k → DataW.trod enc P w base spare held fuel e vs = some y → ∃ x : α, vs = cs x) (h : DataW.trod enc P w base spare held fuel t [v] = some x) : ∃ xs : List α, Ls cs k w 0 w.heap.size v xs := by
 rcases open_slice ht h with ⟨h0, _⟩ | ⟨a, len, cap, m, n, D, Pl, h0, _, hl, hm, hmm, _, hi⟩
 ·injection h0 with h0
  subst h0
  exact ⟨[], Ls.nil w _ _⟩
 injection h0 with h0
 subst h0
 have hlm : len ≤ m := by rw [hmm]; split <;> omega
 obtain ⟨xs, hxl, hx⟩ := Zlu (n := len) (Q := fun i (x : α) => ∀ j u, (cs x)[j]? = some u → w.cell? (a.add (i * k + j)) = some u) fun i hlt => by
  obtain ⟨cs', hcs, htr⟩ := hi i (by omega)
  obtain ⟨_, hcl, hat⟩ := World.cells?_some hcs
  rw [hk] at hcl hat
  obtain ⟨y, hy⟩ := he _ _ _ hcl htr
  refine ⟨y, fun j u hu => ?_⟩
  have hj : j < k := by have := (List.getElem?_eq_some_iff.1 hu).1; rw [hc] at this; exact this
  have h1 := hat j hj
  rw [hy, hu, Go.KLib.add_add] at h1
  exact h1
 refine ⟨xs, Sl.here (L := 0) (B := a.block + 1) ⟨flat_len hc xs, some a, cap, by rw [hxl], by omega, hm, fun _ => ⟨a, rfl, ⟨Nat.zero_le _, Nat.lt_succ_self _⟩, fun j u hu => ?_⟩⟩ hk0⟩
 have hjl : j < xs.length * k := by have := (List.getElem?_eq_some_iff.1 hu).1; rwa [flat_len hc] at this
 have hd : j / k < xs.length := Nat.div_lt_of_lt_mul (by rwa [Nat.mul_comm])
 have hg := Zdf hc xs (j / k) xs[j / k] (List.getElem?_eq_getElem hd)
 have h2 := hx (j / k) xs[j / k] (List.getElem?_eq_getElem hd) (j % k) u (by
  rw [← hg, List.getElem?_take, if_pos (Nat.mod_lt _ hk0), List.getElem?_drop, Nat.mul_comm, Nat.div_add_mod]
  exact hu)
 rwa [Nat.mul_comm, Nat.div_add_mod] at h2
theorem Zha {r : Reach} {b0 : Nat} {t e : TypeId} {v : Value} {d : DataW H} {p : List MemPlace} (hs : P.underlying t = some (.slice e)) (hv : Value.okWide P w r b0 t v) (h : DataW.Trod enc P w base spare held t v d p) :
   ∃ fuel x, DataW.trod enc P w base spare held fuel t [v] = some x := by
 obtain ⟨a, len, cap, rfl⟩ := okWide_slice hs hv
 obtain ⟨fuel, hf⟩ := h
 exact ⟨fuel, _, hf⟩
theorem Zek {W W' : World} (hl : laidOutB P = true) (hb : Ch [] W W') : ∀ (ts : List TypeId) (vs : List Value) (ds : List (DataW H)) (ps : List MemPlace), (∀ t ∈ ts, P.readableRec t = true ∧ t < P.types.size) →
   (∀ x ∈ ps, x.block < W.heap.size) → DataW.TrodAll enc P W 0 (fun _ => true) true ts vs ds ps → DataW.TrodAll enc P W' 0 (fun b => decide (b < W.heap.size)) true ts vs ds ps
 | [], [], [], ps, _, _, h => h
 | t :: ts, v :: vs, d :: ds, ps, hts, hps, h => by
  obtain ⟨p, q, h1, h2, rfl⟩ := h
  exact ⟨p, q, Below.trod hl (hts t (by simp)).1 (hts t (by simp)).2 h1 hb.below (fun x hx => hps x (by simp [hx])),
   Zek hl hb ts vs ds q (fun t' ht' => hts t' (by simp [ht'])) (fun x hx => hps x (by simp [hx])) h2, rfl⟩
 | [], v :: vs, _, _, _, _, h => by simp [DataW.TrodAll] at h
 | [], [], d :: ds, _, _, _, h => by simp [DataW.TrodAll] at h
 | t :: ts, [], _, _, _, _, h => by simp [DataW.TrodAll] at h
 | t :: ts, v :: vs, [], _, _, _, h => by simp [DataW.TrodAll] at h
theorem Zkb {fn : Func} {s : ChangeSpec} {W W' : World} {args : Array Value} {ds : List (DataW H)} {ps : List MemPlace} {tb : TypeId} (hl : laidOutB P = true) (hts : fn.params.toList.all (fun t => P.readableRec t && decide (t < P.types.size)) = true)
   (hr : fn.resultTypes = #[tb]) (htb : P.underlying tb = some .bool) (hvars : s.vars = []) (hfn : s.fn H (ds ++ []) = { results := [.lit (.bool true)], args := ds })
   (hW : DataW.Whole enc P fn.params.toList s.vars false W args.toList ds [] ps) (hb : Ch [] W W') :
   s.post enc P fn false true false false W args (.bool true) W' := by
 have hW0 := hW
 obtain ⟨p, q, hA, hV, rfl, _, _⟩ := hW
 rw [hvars] at hV
 have hq : q = [] := hV
 subst hq
 have hlt : ∀ x ∈ p, x.block < W.heap.size := fun x hx => hW0.lt x (by simpa using hx)
 refine ⟨ds, [], _, [], p, [], hW0, ?_, ?_, ?_, hb.below.frame _, fun h => by cases h⟩
 ·rw [hfn, hr]
  exact trodAll_mk1 (shut_bool htb true)
 ·rw [hfn]
  refine Zek hl hb _ _ _ _ (fun t ht => ?_) hlt hA
  have := List.all_eq_true.1 hts t ht
  simpa using this
 rw [hfn, hvars]
 exact rfl
end
end Go.KLib

namespace Go.KLib
def evp (l : KL) : List (Nat × Operand) → Option (List (Nat × Value))
 | [] => some []
 | p :: ps => match ev l p.2, evp l ps with
  | some v, some vs => some ((p.1, v) :: vs)
  | _, _ => none
theorem Zgw {l : KL} {ρ : Operand → Value} (hρ : ∀ x u, ev l x = some u → ρ x = u) : ∀ (ps : List (Nat × Operand)) (vs : List (Nat × Value)), evp l ps = some vs → ps.map (fun p => (p.1, ρ p.2)) = vs
 | [], vs, h => by simp [evp] at h; simp [h]
 | p :: ps, vs, h => by
  simp only [evp] at h
  cases h1 : ev l p.2 with
  | none => simp [h1] at h
  | some u =>
   cases h2 : evp l ps with
   | none => simp [h1, h2] at h
   | some us =>
    simp [h1, h2] at h
    rw [List.map_cons, hρ p.2 u h1, Zgw hρ ps us h2, h]
def Zhv (place : Nat → Option (Nat × Nat)) (cells : List Value) : List (Nat × Value) → Option (List Value)
 | [] => some cells
 | p :: rest => match place p.1 with
  | none => none
  | some q => bif Nat.beq p.2.cells.size q.2 && Nat.ble (q.1 + q.2) cells.length then Zhv place (cells.take q.1 ++ p.2.cells.toList ++ cells.drop (q.1 + q.2)) rest else none
theorem Zjt (vs : List Value) : ∀ (o i : Nat) (cells : List Value), o + i + vs.length ≤ cells.length →
   ((vs.zipIdx i).foldl (fun (cs : Array Value) (p : Value × Nat) => cs.setIfInBounds (o + p.2) p.1) cells.toArray) = (cells.take (o + i) ++ vs ++ cells.drop (o + i + vs.length)).toArray := by
 induction vs with
 | nil => intro o i cells _; simp
 | cons v vs ih =>
  intro o i cells h
  simp only [List.length_cons] at h
  rw [List.zipIdx_cons, List.foldl_cons]
  have e : (cells.toArray.setIfInBounds (o + i) v) = (cells.set (o + i) v).toArray := by simp
  rw [e, ih o (i + 1) (cells.set (o + i) v) (by simp; omega)]
  congr 1
  have hlt : o + i < cells.length := by omega
  apply List.ext_getElem?
  intro q
  simp only [List.getElem?_append, List.getElem?_take, List.getElem?_drop, List.getElem?_set, List.length_append, List.length_take, List.length_set, List.length_cons]
  rcases Nat.lt_trichotomy q (o + i) with h1 | h1 | h1
  ·simp [show q < min (o + (i + 1)) cells.length by omega, show q < min (o + i) cells.length by omega, show q < o + (i + 1) by omega, show ¬ o + i = q by omega, h1, show q < min (o + (i + 1)) cells.length + vs.length by omega, show q < min (o + i) cells.length + (vs.length + 1) by omega]
  ·subst h1
   simp [show o + i < min (o + (i + 1)) cells.length by omega, show o + i < o + (i + 1) by omega, hlt, show o + i < min (o + (i + 1)) cells.length + vs.length by omega, show min (o + i) cells.length = o + i by omega]
  have e1 : min (o + (i + 1)) cells.length = o + i + 1 := by omega
  have e2 : min (o + i) cells.length = o + i := by omega
  rw [e1, e2]
  by_cases h2 : q < o + i + 1 + vs.length
  ·rw [if_pos h2, if_neg (by omega), if_pos (by omega), if_neg (by omega)]
   rw [show q - (o + i) = (q - (o + i + 1)) + 1 from by omega, List.getElem?_cons_succ]
  rw [if_neg h2, if_neg (by omega), if_neg (by omega)]
  congr 1
  omega
theorem Zdz (place : Nat → Option (Nat × Nat)) : ∀ (parts : List (Nat × Value)) (cells cells' : List Value), Zhv place cells parts = some cells' → Instr.fill place cells.toArray parts = some cells'.toArray
 | [], cells, cells', h => by simp [Zhv] at h; simp [Instr.fill, h]
 | p :: rest, cells, cells', h => by
  obtain ⟨i, v⟩ := p
  simp only [Zhv] at h
  cases hp : place i with
  | none => simp [hp] at h
  | some q =>
   obtain ⟨off, size⟩ := q
   simp only [hp] at h
   cases hc : (Nat.beq v.cells.size size && Nat.ble (off + size) cells.length) with
   | false => simp [hc] at h
   | true =>
    simp only [hc, cond_true] at h
    simp only [Bool.and_eq_true] at hc
    have h1 : v.cells.size = size := Nat.eq_of_beq_eq_true hc.1
    have h2 : off + size ≤ cells.length := Nat.le_of_ble_eq_true hc.2
    have ih := Zdz place rest _ _ h
    simp only [Instr.fill, hp]
    rw [if_neg (by simp [h1, h2])]
    have hf := Zjt v.cells.toList off 0 cells (by rw [Array.length_toList, h1]; omega)
    simp only [Nat.add_zero, Array.length_toList, h1] at hf
    rw [← ih, ← hf]
    congr 1
    rw [← Array.foldl_toList, Array.toList_zipIdx]
def Qu (P : Program) (t : TypeId) : Option (List (Nat × Nat)) :=
 match P.underlying t with
 | some (.struct fs) => fs.toList.mapM fun f => (Ya P f.type).map fun s => (f.offset, s)
 | _ => none
section
variable {P : Program} {w : World} {l : KL} {dst : Option Tmp} {ty : TypeId} {pos : String} {aft : Array Go.Edge} {gd : Option (Nat × Bool)} {K : Value → World → Prop}
theorem Zie {fs : List Field} {pl : List (Nat × Nat)} (h : fs.mapM (fun f => (Ya P f.type).map fun s => (f.offset, s)) = some pl) :
   (fs.mapM (m := Sem) fun f => do pure (f.offset, ← sizeOf f.type)).run P w = .ok pl w := by
 induction fs generalizing pl with
 | nil => simp at h; simp [h]
 | cons f fs ih =>
  simp only [List.mapM_cons] at h
  cases hs : Ya P f.type with
  | none => simp [hs] at h
  | some s =>
   cases hr : fs.mapM (fun f => (Ya P f.type).map fun s => (f.offset, s)) with
   | none => simp [hs, hr] at h
   | some rs =>
    simp [hs, hr] at h
    simp only [List.mapM_cons, Sem.run_bind, Qn hs, Result.andThen_ok, Sem.run_pure, ih hr, h]
theorem Ys {t : TypeId} {parts : List (Nat × Operand)} {vs : List (Nat × Value)} {pl : List (Nat × Nat)} {z : Value} {cells : List Value} (hz : Yw P t = some z) (hp : Qu P t = some pl) (hv : evp l parts = some vs)
   (hf : Zhv (fun (i : Nat) => pl[i]?) z.cells.toList vs = some cells) : Qe P l ⟨dst, .build t parts.toArray, ty, pos, aft, gd⟩ w (.agg cells.toArray) w := fun ρ hρ => by
 unfold Qu at hp
 cases hu : P.underlying t with
 | none => simp [hu] at hp
 | some d =>
  cases d with
  | struct fs =>
   simp only [hu] at hp
   have h1 := Zgw hρ parts vs hv
   have h2 : (fs.mapM (m := Sem) fun f => do pure (f.offset, ← sizeOf f.type)).run P w = .ok pl.toArray w := by
    rw [← Array.toArray_toList (xs := fs), List.mapM_toArray]
    simp only [Sem.run_map, Zie hp, Result.andThen_ok]
   have h3 := Zdz (fun (i : Nat) => pl[i]?) vs z.cells.toList cells hf
   have h4 : (parts.toArray.map fun p => (p.1, ρ p.2)) = vs.toArray := by rw [List.map_toArray, h1]
   have h5 : (fun (i : Nat) => pl.toArray[i]?) = fun (i : Nat) => pl[i]? := by funext i; simp
   simp only [Array.toArray_toList] at h3
   simp only [execOp, h4, Instr.build, Sem.run_bind, Zdn hz, Result.andThen_ok, run_underlying hu, h2, h5, h3, Sem.run_pure]
  | _ => simp [hu] at hp
variable {α : Type} {cs : α → List Value} {e k : Nat}
theorem Zq {t : TypeId} {n : Nat} {parts : List (Nat × Operand)} {vs : List (Nat × Value)} {z : Value} (z0 : α) (ys : List α) (ht : elB P t = some e) (hk : Ya P e = some k) (hz : Yw P e = some z) (hc : ∀ x, (cs x).length = k) (hk0 : 0 < k) (hzc : z.cells.toList = cs z0)
   (hv : evp l parts = some vs) (hn : ys.length = n) (hp : 0 < n) (hn0 : n * k ≤ 16777216) (hf : Zhv (fun i => some (i * k, k)) ((List.replicate n z0).flatMap cs) vs = some (ys.flatMap cs))
   (kk : ∀ v w', Ol cs e k w' v ys → Lo w.heap.size v → Ch [] w w' → K v w') : Step P l ⟨dst, .buildSlice t n parts.toArray, ty, pos, aft, gd⟩ w K := by
 have hpk : 0 < n * k := Nat.mul_pos hp hk0
 have h0 : (Array.range (n * k)).map (z.cells[· % z.cells.size]!) = ((List.replicate n z0).flatMap cs).toArray := by
  have := Zjk hzc hc hk0 n
  rw [← this]
  unfold madeCells
  rw [Array.toArray_toList]
 have h3 := Zdz (fun i => some (i * k, k)) vs _ _ hf
 refine Step.of (v := .slice (some ⟨w.heap.size, 0, none⟩) n n) (w' := w.alloc (.cells (ys.flatMap cs).toArray e)) (fun ρ hρ => ?_) (kk _ _ ?_ (fun g hg => by simp [bl, Value.ownBlock] at hg; omega) (Ch.alloc w _))
 ·have h1 := Zgw hρ parts vs hv
  have h4 : (parts.toArray.map fun p => (p.1, ρ p.2)) = vs.toArray := by rw [List.map_toArray, h1]
  have hlim : ¬ (n * k > 2 ^ 24) := by omega
  have hne : ¬ (n * k = 0) := by omega
  simp only [execOp, h4, Instr.buildSlice, Sem.run_bind, run_underlying (Zab ht), Result.andThen_ok, Qn hk, hlim, if_false, hne, Zdn hz, Sem.run_pure, h0, h3]
  simp [newRow]
 have hm : n ≤ maxLen := by
  have : n ≤ n * k := Nat.le_mul_of_pos_right _ hk0
  simp only [maxLen]; omega
 have := Ow.made w e k n (ys.flatMap cs).toArray n (Nat.le_refl _) hm (by simp [flat_len hc, hn])
 have hl : (ys.flatMap cs).length = n * k := by rw [flat_len hc, hn]
 rw [List.toList_toArray, List.take_of_length_le (by omega)] at this
 subst hn
 exact this
theorem Xb {t : TypeId} (cs : α → List Value) (ht : elB P t = some e) (hk : Ya P e = some k)
   (kk : ∀ v w', Ol cs e k w' v ([] : List α) → Lo w.heap.size v → Ch [] w w' → K v w') : Step P l ⟨dst, .buildSlice t 0 #[], ty, pos, aft, gd⟩ w K := by
 have e0 : Array.range 0 = #[] := rfl
 refine Step.of (v := .slice (some ⟨w.heap.size, 0, none⟩) 0 0) (w' := w.alloc (.cells #[] e)) (fun ρ _ => ?_) (kk _ _ ?_ (fun g hg => by simp [bl, Value.ownBlock] at hg; omega) (Ch.alloc w _))
 ·simp [execOp, Instr.buildSlice, run_underlying (Zab ht), Qn hk, Instr.fill, newRow, e0]
 have h := Ow.made w e k 0 #[] 0 (Nat.le_refl _) (Nat.zero_le _) (by simp)
 simp only [Nat.zero_mul, List.take_zero] at h
 exact h
end
end Go.KLib

namespace Go.KLib
noncomputable def tt (p : Prop) : Bool := @decide p (Classical.propDecidable p)
theorem Zeh {p : Prop} : tt p = true ↔ p := by unfold tt; exact @decide_eq_true_iff p (Classical.propDecidable p)
theorem Xt {p : Prop} (h : p) : true = tt p := (Zeh.2 h).symm
theorem Zu {p : Prop} (h : ¬ p) : false = tt p := by
 cases e : tt p
 ·rfl
 exact absurd (Zeh.1 e) h
theorem Zeo {p q : Prop} (h : p ↔ q) : tt p = tt q := by
 cases e : tt q
 ·exact (Zu (fun hp => by rw [Zeh.2 (h.1 hp)] at e; cases e)).symm
 exact Zeh.2 (h.2 (Zeh.1 e))
theorem Zdc {p : Prop} {_ : Decidable p} : decide p = tt p := by
 by_cases h : p
 ·rw [← Xt h]; exact decide_eq_true h
 rw [← Zu h]; exact decide_eq_false h
theorem bt_t {p : Prop} (h : tt p = true) : p := Zeh.1 h
theorem bf_t {p : Prop} (h : tt p = false) : ¬ p := fun hp => by rw [Zeh.2 hp] at h; cases h
def Zmb (a b : Pair) : Prop := a.f < b.f ∨ (a.f = b.f ∧ a.t < b.t)
def iand (x y : Int) : Int := IntKind.i64.wrap (BitVec.ofInt IntKind.i64.bits x &&& BitVec.ofInt IntKind.i64.bits y).toNat
def ixor (x y : Int) : Int := IntKind.i64.wrap (BitVec.ofInt IntKind.i64.bits x ^^^ BitVec.ofInt IntKind.i64.bits y).toNat
def ishr (x y : Int) : Int := x.fdiv (2 ^ (min y.toNat IntKind.i64.bits))
def w64 (x : Int) : Int := IntKind.i64.wrap x
section
variable {P : Program} {w : World} {l : KL} {dst : Option Tmp} {ty : TypeId} {pos : String} {aft : Array Go.Edge} {gd : Option (Nat × Bool)} {x y : Operand} {xt yt : TypeId} {a b : Int} {k : IntKind}
theorem Zkx (hx : ev l x = some (.int .i64 a)) (hy : ev l y = some (.int .i64 b)) : Qe P l ⟨dst, .binOp .and xt x y yt, ty, pos, aft, gd⟩ w (.int .i64 (iand a b)) w := fun ρ hρ => by
 simp [execOp, hρ _ _ hx, hρ _ _ hy, eqGuard, binOp, Op.intBits, iand]
theorem Zne (hx : ev l x = some (.int .i64 a)) (hy : ev l y = some (.int .i64 b)) : Qe P l ⟨dst, .binOp .xor xt x y yt, ty, pos, aft, gd⟩ w (.int .i64 (ixor a b)) w := fun ρ hρ => by
 simp [execOp, hρ _ _ hx, hρ _ _ hy, eqGuard, binOp, Op.intBits, ixor]
theorem Zmf (h : 0 ≤ b) (hx : ev l x = some (.int .i64 a)) (hy : ev l y = some (.int k b)) : Qe P l ⟨dst, .binOp .shr xt x y yt, ty, pos, aft, gd⟩ w (.int .i64 (ishr a b)) w := fun ρ hρ => by
 have hn : ¬ b < 0 := by omega
 simp [execOp, hρ _ _ hx, hρ _ _ hy, eqGuard, binOp, Op.shift, hn, ishr]
theorem Zfo (hx : ev l x = some (.int .i64 a)) (hy : ev l y = some (.int .i64 b)) : Qe P l ⟨dst, .binOp .add xt x y yt, ty, pos, aft, gd⟩ w (.int .i64 (w64 (a + b))) w := Zkr hx hy
end
end Go.KLib

namespace Go.KLib
end Go.KLib

namespace Go.KLib
section
variable {P : Program} {w : World}
theorem Zbv {t ty e : TypeId} {i : TypeInfo} (ht : P.underlying t = some (.slice e)) (hi : P.info? e = some i)
   {g off n cap : Nat} {cur : Array Value} (hg : w.heap[g]? = some (.cells cur e (0, 0)))
   {a : Addr} {m c : Nat} {news : List Value} (hl : news.length = m * i.size) (hnews : ∀ j u, news[j]? = some u → w.cell? (a.add j) = some u) (h1 : ∀ u ∈ news, u.oneCell' = true)
   (hroom : n + m ≤ cap) (hfit : off + n * i.size + news.length ≤ cur.size) :
   (Builtin.append_ #[t, t] ty #[.slice (some ⟨g, off, none⟩) n cap, .slice (some a) m c]).run P w =
     .ok (.slice (some ⟨g, off, none⟩) (n + m) cap) (w.setRow g (cur.toList.take (off + n * i.size) ++ news ++ cur.toList.drop (off + n * i.size + news.length)).toArray) := by
 have hf := run_firstCells_some (P := P) w i.size m a m c news hl hnews
 have hst := run_storeCells_at P g (off + n * i.size) e news 0 cur w hg (by simpa using hfit) h1
 simp only [Nat.add_zero] at hst
 simp [Builtin.append_, run_underlying ht, sizeOf, typeInfo, hi, Builtin.lenOf, hroom, hf, Addr.add_lit, hst]
theorem Zfe {t ty e : TypeId} {i : TypeInfo} (ht : P.underlying t = some (.slice e)) (hi : P.info? e = some i)
   {k n : Nat} {v : Value} {xs : List Value} {e' : TypeId} (ho : Ow w e' k v n xs) (c : Nat) : (Builtin.append_ #[t, t] ty #[v, .slice none 0 c]).run P w = .ok v w := by
 rcases ho.2 with ⟨rfl, rfl⟩ | ⟨g, off, cap, cur, rfl, _, hnc, _⟩
 ·simp [Builtin.append_, run_underlying ht, sizeOf, typeInfo, hi, Builtin.lenOf, Builtin.firstCells]
 simp [Builtin.append_, run_underlying ht, sizeOf, typeInfo, hi, Builtin.lenOf, Builtin.firstCells, hnc, storeCells]
theorem Ow.append {t ty e : TypeId} {k by_ n m L B : Nat} {z v u : Value} {xs ys : List Value} (ht : elB P t = some e) (hk : Ya P e = some k) (hb : Qo P e = some by_) (hz : Yw P e = some z)
    (hzs : z.cells.size = k) (hk0 : 0 < k) (ho : Ow w e k v n xs) (hs : Sl w L B k u m ys) (h1 : ∀ y ∈ ys, y.oneCell' = true) (h63 : n + m ≤ 9223372036854775807) (hbytes : (n + m) * by_ ≤ 140737488355328) :
    ∃ v' w', (Builtin.append_ #[t, t] ty #[v, u]).run P w = .ok v' w' ∧ Ow w' e k v' (n + m) (xs ++ ys) ∧ Ch (bl v) w w' ∧ (bl v' = bl v ∨ bl v' = [w.heap.size]) := by
  obtain ⟨i, hi, hiz, his, hib⟩ := Zgy hk hb hz
  have hel := Zab ht
  obtain ⟨hyl, A, c, rfl, hmc, hcm, hA⟩ := hs
  have hmx : n + m ≤ maxLen := by simp only [maxLen]; omega
  have hlen : (xs ++ ys).length = (n + m) * k := by rw [List.length_append, ho.1, hyl, Nat.add_mul]
  rcases A with _ | ad
  · have hm : m = 0 := by
      rcases Nat.eq_zero_or_pos m with h | h
      · exact h
      · obtain ⟨ad, h2, _⟩ := hA h; cases h2
    subst hm
    have hys : ys = [] := List.eq_nil_of_length_eq_zero (by simpa using hyl)
    subst hys
    exact ⟨v, w, Zfe hel hi ho c, by simpa using ho, Ch.refl _ _, .inl rfl⟩
  · have hcells : ∀ j u, ys[j]? = some u → w.cell? (ad.add j) = some u := by
      intro j u hu
      rcases Nat.eq_zero_or_pos m with h | h
      · subst h
        have hys : ys = [] := List.eq_nil_of_length_eq_zero (by simpa using hyl)
        subst hys; simp at hu
      · obtain ⟨ad', h2, ha⟩ := hA h
        injection h2 with h2; subst h2
        exact ha.cell j hu
    have grown : ∀ (old : Nat), old < n + m → ∃ cap,
        Ow (w.drew.alloc (.cells (xs.toArray ++ ys.toArray ++ Builtin.zeroCells z.cells (grownCap w (n + m) old e - (n + m))) e)) e k (.slice (some ⟨w.heap.size, 0, none⟩) (n + m) cap) (n + m) (xs ++ ys) ∧ cap = grownCap w (n + m) old e := by
      intro old hold
      have hge := grownCap_ge w (n + m) old e
      have hcm' : grownCap w (n + m) old e ≤ maxLen := grownCap_le_maxLen w (n + m) old e hmx
      refine ⟨_, ⟨hlen, .inr ⟨w.heap.size, 0, _, _, rfl, heap_alloc_new w.drew _, hge, hcm', ?_, ?_⟩⟩, rfl⟩
      · simp only [Array.size_append, List.size_toArray, size_zeroCells, hzs, ho.1, hyl, ← Nat.add_mul]
        refine Nat.le_of_eq ?_
        rw [Nat.zero_add]; congr 1; omega
      · simp only [Array.toList_append, List.append_assoc, List.drop_zero]
        rw [← List.append_assoc, ← hlen]
        exact List.take_left
    have grow : ∀ o, Ch (bl v) w (w.drew.alloc o) := fun o => ⟨rfl, rfl, rfl, by simp, fun j hj _ => heap_alloc_old w.drew _ hj⟩
    subst his hib
    rcases ho.2 with ⟨rfl, rfl⟩ | ⟨g, off, cap, cur, rfl, hg, hnc, hcp, hcs, htake⟩
    · have hx : xs = [] := List.eq_nil_of_length_eq_zero (by simpa using ho.1)
      subst hx
      by_cases hm : m = 0
      · subst hm
        have hys : ys = [] := List.eq_nil_of_length_eq_zero (by simpa using hyl)
        subst hys
        refine ⟨.slice none 0 0, w, ?_, Ow.nil w e _, Ch.refl _ _, .inl rfl⟩
        simp [Builtin.append_, run_underlying hel, sizeOf, typeInfo, hi, Builtin.lenOf, Builtin.firstCells, loadCells, loadCellsFrom]
      · have hr := run_append_nil (P := P) w t ty e i z hel hi hiz ad m c ys hyl hcells (by omega) (by omega) (by simp only [Nat.zero_add] at hbytes; omega)
        obtain ⟨cp, h2, rfl⟩ := grown 0 (by omega)
        simp only [Nat.zero_add, List.nil_append, Array.empty_append] at h2 ⊢
        exact ⟨_, _, hr, h2, grow _, .inr rfl⟩
    · by_cases hroom : n + m ≤ cap
      · have hfit : off + n * i.size + ys.length ≤ cur.size := by
          have := Nat.mul_le_mul_right i.size hroom
          rw [hyl]; rw [Nat.add_mul] at this; omega
        have hr := Zbv (P := P) (ty := ty) (c := c) hel hi hg hyl hcells h1 hroom hfit
        refine ⟨_, _, hr, ⟨hlen, .inr ⟨g, off, cap, _, rfl, setRow_heap w g cur _ e _ hg, hroom, hcp, ?_, ?_⟩⟩, ⟨rfl, rfl, rfl, by simp [World.setRow], fun j _ hj => setRow_other w g j _ (fun e => hj (by simp [bl, Value.ownBlock, e]))⟩, .inl rfl⟩
        · simp only [List.size_toArray, List.length_append, List.length_take, List.length_drop, Array.length_toList]
          omega
        · have hto : (cur.toList.take (off + n * i.size)).drop off = xs := by
            rw [← htake, List.drop_take]; congr 1; omega
          have hol : off ≤ (cur.toList.take (off + n * i.size)).length := by rw [List.length_take, Array.length_toList]; omega
          show ((((cur.toList.take (off + n * i.size)) ++ ys ++ _).toArray).toList.drop off).take _ = _
          rw [show (∀ l : List Value, l.toArray.toList = l) from fun _ => rfl, List.append_assoc, List.drop_append_of_le_length hol, hto, ← List.append_assoc, ← hlen]
          exact List.take_left
      · have holds : ∀ j u, xs[j]? = some u → w.cell? ((⟨g, off, none⟩ : Addr).add j) = some u := fun j u hu => by rw [add_lit]; exact ho.cells rfl j u hu
        have hr := run_append_grow (P := P) w t ty e i z hel hi hiz ⟨g, off, none⟩ n cap xs ho.1 holds ad m c ys hyl hcells (by omega) (by omega) (growslice_fits (by omega) hbytes)
        obtain ⟨cp, h2, rfl⟩ := grown cap (by omega)
        exact ⟨_, _, hr, h2, grow _, .inr rfl⟩
variable {α : Type} {cs : α → List Value} {l : KL} {K : Value → World → Prop} {dst : Option Tmp} {pos : String} {aft : Array Go.Edge} {gd : Option (Nat × Bool)}
theorem Yg {s x : Operand} {t ty e : TypeId} {k by_ L B B0 : Nat} {z v u : Value} {xs ys : List α} (ht : elB P t = some e) (hk : Ya P e = some k) (hb : Qo P e = some by_) (hz : Yw P e = some z)
   (hzs : z.cells.size = k) (hk0 : 0 < k) (h1 : ∀ x, ∀ y ∈ cs x, y.oneCell' = true) (ho : Ol cs e k w v xs) (hs : Ls cs k w L B u ys) (hx : ev l s = some v) (hy : ev l x = some u)
   (hbytes : (xs.length + ys.length) * by_ ≤ 140737488355328) (h63 : xs.length + ys.length ≤ 9223372036854775807) (hlo : Lo B0 v) (hB : B0 ≤ w.heap.size)
   (kk : ∀ v' w', Ol cs e k w' v' (xs ++ ys) → Lo B0 v' → (bl v' = bl v ∨ bl v' = [w.heap.size]) → Ch (bl v) w w' → K v' w') :
   Step P l ⟨dst, .call { callee := .builtin .append, args := #[s, x], argTypes := #[t, t] }, ty, pos, aft, gd⟩ w K := by
 obtain ⟨v', w', hr, h2, h3, h4⟩ := Ow.append (ty := ty) ht hk hb hz hzs hk0 ho hs (fun y hy => by obtain ⟨a, _, ha⟩ := List.mem_flatMap.1 hy; exact h1 a y ha) h63 hbytes
 refine Step.of (v := v') (w' := w') (fun ρ hρ => ?_) (kk v' w' ?_ ?_ h4 h3)
 ·unfold execOp
  simp only [resolve, invoke, builtin, Sem.run_bind, Sem.run_pure, Result.andThen_ok, List.map_toArray, List.map_cons, List.map_nil, hρ _ _ hx, hρ _ _ hy, hr]
 ·show Ow w' e k v' (xs ++ ys).length ((xs ++ ys).flatMap cs)
  rw [List.length_append, List.flatMap_append]; exact h2
 intro g hg
 rcases h4 with h4 | h4
 ·rw [h4] at hg; exact hlo g hg
 rw [h4] at hg; have := List.mem_singleton.1 hg; omega
end
theorem Zca (x : Int) : ∀ y ∈ ics x, y.oneCell' = true := by intro y hy; simp [ics] at hy; subst hy; rfl
theorem Pair.one (x : Pair) : ∀ y ∈ x.cs, y.oneCell' = true := by intro y hy; simp [Pair.cs] at hy; rcases hy with rfl | rfl <;> rfl
theorem Token.one (x : Token) : ∀ y ∈ x.cs, y.oneCell' = true := by intro y hy; simp [Token.cs] at hy; rcases hy with rfl | rfl | rfl | rfl <;> rfl
theorem GEdge.one (x : GEdge) : ∀ y ∈ x.cs, y.oneCell' = true := by intro y hy; simp [GEdge.cs] at hy; rcases hy with rfl | rfl | rfl | rfl <;> rfl
structure Sv where
 A : Option Addr
 n : Nat
 c : Nat
def Sv.v (s : Sv) : Value := .slice s.A s.n s.c
def Sv.cs (s : Sv) : List Value := [.slice s.A s.n s.c]
theorem Sv.len (s : Sv) : s.cs.length = 1 := rfl
theorem Sv.one (x : Sv) : ∀ y ∈ x.cs, y.oneCell' = true := by intro y hy; simp [Sv.cs] at hy; subst hy; rfl
def Rd {α : Type} (cs : α → List Value) (k : Nat) (w : World) (L B : Nat) (vs : List Sv) (xs : List (List α)) : Prop :=
 vs.length = xs.length ∧ ∀ (i : Nat) (v : Sv) (x : List α), vs[i]? = some v → xs[i]? = some x → Ls cs k w L B v.v x
section
variable {α : Type} {cs : α → List Value} {k L L' B B' : Nat} {w w' : World} {vs : List Sv} {xs : List (List α)} {ws : List Nat}
theorem Rd.ch (h : Rd cs k w L B vs xs) (c : Ch ws w w') (hw : ∀ i ∈ ws, i < L ∨ B ≤ i) : Rd cs k w' L B vs xs := ⟨h.1, fun i v x a b => (h.2 i v x a b).ch c hw⟩
theorem Rd.ch0 (h : Rd cs k w L B vs xs) (c : Ch [] w w') : Rd cs k w' L B vs xs := h.ch c (by simp)
theorem Rd.up (h : Rd cs k w L B vs xs) (hL : L' ≤ L) (hB : B ≤ B') : Rd cs k w L' B' vs xs := ⟨h.1, fun i v x a b => (h.2 i v x a b).up hL hB⟩
theorem Rd.here (h : Rd cs k w L B vs xs) (hk : 0 < k) : Rd cs k w L w.heap.size vs xs := ⟨h.1, fun i v x a b => (h.2 i v x a b).here hk⟩
theorem Rd.nil : Rd cs k w L B [] ([] : List (List α)) := ⟨rfl, fun _ _ _ h => by simp at h⟩
theorem Rd.cons {v : Sv} {x : List α} (h : Ls cs k w L B v.v x) (r : Rd cs k w L B vs xs) : Rd cs k w L B (v :: vs) (x :: xs) := by
 refine ⟨by simp [r.1], fun i u y a b => ?_⟩
 cases i with
 | zero => simp at a b; subst a b; exact h
 | succ i => exact r.2 i u y (by simpa using a) (by simpa using b)
theorem Rd.get (h : Rd cs k w L B vs xs) {i : Nat} {y : Sv} (hy : vs[i]? = some y) : ∃ x, xs[i]? = some x ∧ Ls cs k w L B y.v x := by
 have hi := (List.getElem?_eq_some_iff.1 hy).1
 have hx : xs[i]? = some (xs[i]'(by have := h.1; omega)) := List.getElem?_eq_getElem _
 exact ⟨_, hx, h.2 i y _ hy hx⟩
theorem Ls.eqn {A : Option Addr} {n c : Nat} {x : List α} (h : Ls cs k w L B (Sv.v ⟨A, n, c⟩) x) : n = x.length := by
 obtain ⟨_, A', c', e, _⟩ := h
 unfold Sv.v at e
 injection e
end
end Go.KLib

namespace Go.KLib
def isK (e : List Token) (k : Int) : Bool := decide (e.length = 1 ∧ (e.getD 0 ⟨0, 0, 0, 0⟩).kind = k)
end Go.KLib

namespace Go.KLib
open Go.ChangeShapes Go.WideShapes Go.ChangeAt Go.RowKit Go.Deep Go.Joins
def Od {α : Type} (cs : α → List Value) (e k : Nat) (w : World) (lo hi : Nat) (vs : List Sv) (xs : List (List α)) : Prop :=
 vs.length = xs.length ∧ (∀ (i : Nat) (v : Sv) (x : List α), vs[i]? = some v → xs[i]? = some x → Ol cs e k w v.v x ∧ ∀ g ∈ bl v.v, lo ≤ g ∧ g < hi) ∧
 ∀ (i j : Nat) (u v : Sv), vs[i]? = some u → vs[j]? = some v → i < j → ∀ g ∈ bl u.v, g ∉ bl v.v
section
variable {α : Type} {cs : α → List Value} {e k lo hi hi' : Nat} {w w' : World} {vs : List Sv} {xs : List (List α)} {ws : List Nat}
theorem Od.ch (h : Od cs e k w lo hi vs xs) (c : Ch ws w w') (hw : ∀ i ∈ ws, i < lo ∨ hi ≤ i) : Od cs e k w' lo hi vs xs :=
 ⟨h.1, fun i v x a b => ⟨(h.2.1 i v x a b).1.ch c fun g hg hm => by have h1 := (h.2.1 i v x a b).2 g hg; have h2 := hw g hm; omega, (h.2.1 i v x a b).2⟩, h.2.2⟩
theorem Od.ch0 (h : Od cs e k w lo hi vs xs) (c : Ch [] w w') : Od cs e k w' lo hi vs xs := h.ch c (by simp)
theorem Od.up {lo' : Nat} (h : Od cs e k w lo hi vs xs) (hl : lo' ≤ lo) (hh : hi ≤ hi') : Od cs e k w lo' hi' vs xs :=
 ⟨h.1, fun i v x a b => ⟨(h.2.1 i v x a b).1, fun g hg => by have h1 := (h.2.1 i v x a b).2 g hg; omega⟩, h.2.2⟩
theorem Od.rd (h : Od cs e k w lo hi vs xs) : Rd cs k w 0 w.heap.size vs xs := ⟨h.1, fun i v x a b => (h.2.1 i v x a b).1.ls⟩
theorem Od.get (h : Od cs e k w lo hi vs xs) {i : Nat} {y : Sv} (hy : vs[i]? = some y) : ∃ x, xs[i]? = some x ∧ Ls cs k w 0 w.heap.size y.v x := h.rd.get hy
theorem Od.nil : Od cs e k w lo hi [] ([] : List (List α)) := ⟨rfl, fun _ _ _ h => by simp at h, fun _ _ _ _ h => by simp at h⟩
theorem Zar {β : Type} {vs : List β} {v u : β} {i : Nat} (h : (vs ++ [v])[i]? = some u) : (i < vs.length ∧ vs[i]? = some u) ∨ (i = vs.length ∧ u = v) := by
 rcases Nat.lt_or_ge i vs.length with hl | hl
 ·rw [List.getElem?_append_left hl] at h; exact .inl ⟨hl, h⟩
 rw [List.getElem?_append_right hl] at h
 rcases Nat.eq_or_lt_of_le hl with he | he
 ·rw [← he] at h; simp at h; exact .inr ⟨he.symm, h.symm⟩
 rw [List.getElem?_eq_none (by simp; omega)] at h; cases h
theorem Od.snoc (h : Od cs e k w lo hi vs xs) {v : Sv} {x : List α} (ho : Ol cs e k w v.v x) (hl : Lo hi v.v) (hu : ∀ g ∈ bl v.v, g < hi') (hh : hi ≤ hi') (hlo : lo ≤ hi) : Od cs e k w lo hi' (vs ++ [v]) (xs ++ [x]) := by
 refine ⟨by simp [h.1], fun i u y a b => ?_, fun i j u u' a b hij => ?_⟩
 ·rcases Zar a with ⟨a1, a2⟩ | ⟨a1, a2⟩
  ·rcases Zar b with ⟨b1, b2⟩ | ⟨b1, b2⟩
   ·exact ⟨(h.2.1 i u y a2 b2).1, fun g hg => by have h1 := (h.2.1 i u y a2 b2).2 g hg; omega⟩
   have := h.1; omega
  rcases Zar b with ⟨b1, b2⟩ | ⟨b1, b2⟩
  ·have := h.1; omega
  subst a2 b2; exact ⟨ho, fun g hg => ⟨by have := hl g hg; omega, hu g hg⟩⟩
 rcases Zar b with ⟨b1, b2⟩ | ⟨b1, b2⟩
 ·rcases Zar a with ⟨a1, a2⟩ | ⟨a1, a2⟩
  ·exact h.2.2 i j u u' a2 b2 hij
  omega
 rcases Zar a with ⟨a1, a2⟩ | ⟨a1, a2⟩
 ·subst b2
  intro g hg hm
  have hx : xs[i]? = some (xs[i]'(by have := h.1; omega)) := List.getElem?_eq_getElem _
  have h1 := (h.2.1 i u _ a2 hx).2 g hg
  have h2 := hl g hm
  omega
 omega
end
theorem Zbj {β : Type} {xs : List β} {k : Nat} {y : β} (h : xs[k]? = some y) : xs.take (k + 1) = xs.take k ++ [y] := by rw [List.take_add_one, h]; rfl
theorem Zdb {β : Type} {xs : List β} {k : Nat} {a b : β} (h : xs[k]? = some a) (h' : xs[k]? = some b) : a = b := by rw [h] at h'; injection h'
section
variable {H : Type} {enc : TypeId × Value → H} {P : Program} {w : World} {base : Nat} {spare : Nat → Bool} {held : Bool}
end
def RowP (n : Int) (r : List Int) (k : Nat) : Prop := ∀ (j : Nat) (t : Int), j < k → r[j]? = some t → -1 ≤ t ∧ t ≤ n - 1
def Zmd (n : Int) (r : List Int) : Prop := r.length = 9 ∧ RowP n r r.length
def Znf (n : Int) (N : List (List Int)) (s : Nat) : Prop := ∀ (j : Nat) (r : List Int), j < s → N[j]? = some r → Zmd n r
def Zky (S : Int) (A : List Bool) (N : List (List Int)) : Prop := (0 ≤ S ∧ S ≤ (A.length : Int) - 1) ∧ N.length = A.length ∧ Znf A.length N N.length
def Zeg (S : Int) (A : List Bool) (N : List (List Int)) : Prop := A.length ≤ 12 ∧ Zky S A N
theorem Zes {S : Int} {A : List Bool} {N : List (List Int)} (e : Zky S A N) {k : Nat} {r : List Int} (h : N[k]? = some r) : Zmd A.length r :=
 e.2.2 k r (List.getElem?_eq_some_iff.1 h).1 h
theorem Zlh {S : Int} {A : List Bool} {N : List (List Int)} (e : Zky S A N) {k j : Nat} {r : List Int} {t : Int} (h : N[k]? = some r) (ht : r[j]? = some t) : -1 ≤ t ∧ t ≤ (A.length : Int) - 1 :=
 (Zes e h).2 j t (List.getElem?_eq_some_iff.1 ht).1 ht
end Go.KLib

namespace Go.KLib
def Zkz (N : List (List Int)) (s x : Int) : Int := if s < 0 ∨ ¬ (0 ≤ x ∧ x ≤ 8) then -1 else (N.getD s.toNat []).getD x.toNat 0
def accA (A : List Bool) (s : Int) : Bool := decide (0 ≤ s) && A.getD s.toNat false
theorem Zmw {A : List Bool} {s : Int} (h : ¬ 0 ≤ s) : false = accA A s := by
 unfold accA; rw [decide_eq_false h]; rfl
def cmpL : List Int → List Int → Int
 | [], [] => 0
 | [], _ :: _ => -1
 | _ :: _, [] => 1
 | x :: xs, y :: ys => if x < y then -1 else if y < x then 1 else cmpL xs ys
theorem Zay : ∀ {a b : List Int}, cmpL a b = 0 ↔ a = b
 | [], [] => by simp [cmpL]
 | [], _ :: _ => by simp [cmpL]
 | _ :: _, [] => by simp [cmpL]
 | x :: xs, y :: ys => by
  unfold cmpL
  rw [List.cons.injEq, ← Zay (a := xs) (b := ys)]
  split
  ·simp; omega
  split
  ·simp; omega
  constructor
  ·intro h; exact ⟨by omega, h⟩
  intro h; exact h.2
theorem Zdm : ∀ {a b : List Int} (k : Nat), a.take k = b.take k → cmpL a b = cmpL (a.drop k) (b.drop k)
 | _, _, 0, _ => rfl
 | [], [], _ + 1, _ => rfl
 | [], _ :: _, _ + 1, h => by simp at h
 | _ :: _, [], _ + 1, h => by simp at h
 | x :: xs, y :: ys, k + 1, h => by
  simp at h
  obtain ⟨rfl, h⟩ := h
  show (if x < x then -1 else if x < x then 1 else cmpL xs ys) = cmpL (xs.drop k) (ys.drop k)
  rw [if_neg (by omega), if_neg (by omega)]
  exact Zdm k h
theorem Zcd {α : Type} {a : List α} {k : Nat} {x : α} (h : a[k]? = some x) : a.drop k = x :: a.drop (k + 1) := by
 obtain ⟨hk, rfl⟩ := List.getElem?_eq_some_iff.1 h
 exact List.drop_eq_getElem_cons hk
theorem Zcv {a b : List Int} {k : Nat} {x y : Int} (h : a.take k = b.take k) (ha : a[k]? = some x) (hb : b[k]? = some y) (hl : x < y) : -1 = cmpL a b := by
 rw [Zdm k h, Zcd ha, Zcd hb, cmpL, if_pos hl]
theorem Zct {a b : List Int} {k : Nat} {x y : Int} (h : a.take k = b.take k) (ha : a[k]? = some x) (hb : b[k]? = some y) (hl : y < x) : 1 = cmpL a b := by
 rw [Zdm k h, Zcd ha, Zcd hb, cmpL, if_neg (by omega), if_pos hl]
theorem Zbx {a b : List Int} {k : Nat} (h : a.take k = b.take k) (hk : k = a.length ∨ k = b.length) (hka : k ≤ a.length) (hkb : k ≤ b.length) : cmpL a b = if a.length < b.length then -1 else if b.length < a.length then 1 else 0 := by
 rw [Zdm k h]
 rcases Nat.lt_or_ge k a.length with h1 | h1
 ·have h2 : k = b.length := by omega
  rw [Zcd (List.getElem?_eq_getElem h1), List.drop_eq_nil_of_le (Nat.le_of_eq h2.symm), if_neg (by omega), if_pos (by omega)]; rfl
 rw [List.drop_eq_nil_of_le h1]
 rcases Nat.lt_or_ge k b.length with h3 | h3
 ·rw [Zcd (List.getElem?_eq_getElem h3), if_pos (by omega)]; rfl
 rw [List.drop_eq_nil_of_le h3, if_neg (by omega), if_neg (by omega)]; rfl
end Go.KLib

namespace Go.KLib
inductive Cl (B : Nat → Prop) (R : Nat → Nat → Prop) : Nat → Prop
 | base {s : Nat} (h : B s) : Cl B R s
 | step {s t : Nat} (h : R s t) (k : Cl B R t) : Cl B R s
def ClN (B : Nat → Prop) (R : Nat → Nat → Prop) : Nat → Nat → Prop
 | 0, s => B s
 | j + 1, s => ClN B R j s ∨ ∃ t, R s t ∧ ClN B R j t
noncomputable def clL (B : Nat → Prop) (R : Nat → Nat → Prop) (n : Nat) : List Bool := (List.range n).map fun s => tt (Cl B R s)
section
variable {B : Nat → Prop} {R : Nat → Nat → Prop} {n : Nat}
theorem Zlv {s : Nat} (hs : s < n) : (clL B R n)[s]? = some (tt (Cl B R s)) := by simp [clL, hs]
theorem ClN.up {j s : Nat} (h : ClN B R j s) : ∀ i, ClN B R (j + i) s
 | 0 => h
 | i + 1 => .inl (h.up i)
end
def Zjv (A : List Bool) (s : Nat) : Prop := A[s]? = some true
def Zik (N : List (List Int)) (s t : Nat) : Prop := ∃ (i : Nat) (r : List Int), N[s]? = some r ∧ r[i]? = some (t : Int)
theorem Zkf {l : List Bool} {i s : Nat} (h : l[s]? = some true) : (l.set i true)[s]? = some true := by
 rw [List.getElem?_set]
 split
 ·rename_i e; subst e
  rw [if_pos (List.getElem?_eq_some_iff.1 h).1]
 exact h
section
variable {A : List Bool} {N : List (List Int)} {j s k i : Nat} {l : List Bool} {r : List Int} {y : Int}
noncomputable def Zax (A : List Bool) (N : List (List Int)) : List Bool := clL (Zjv A) (Zik N) A.length
end
section
variable {P : Program} {w : World} {l : KL} {dst : Option Tmp} {ty : TypeId} {pos : String} {aft : Array Go.Edge} {gd : Option (Nat × Bool)} {x y : Operand} {xt yt : TypeId}
end
theorem Ls.none {α : Type} {cs : α → List Value} {k L B n c : Nat} {w : World} {A : Option Addr} {xs : List α} (h : Ls cs k w L B (.slice A n c) xs) (hA : A.isNone = true) : xs = [] := by
 obtain ⟨_, A', c', e, _, _, h3⟩ := h
 injection e with e1 e2
 subst e1
 rcases Nat.eq_zero_or_pos xs.length with h0 | h0
 ·exact List.eq_nil_of_length_eq_zero h0
 obtain ⟨ad, ha, _⟩ := h3 h0
 rw [ha] at hA; cases hA
section
variable {A : List Bool} {N : List (List Int)} {s k : Nat} {l : List Bool} {r : List Int} {y : Int}
end
end Go.KLib

namespace Go.KLib
inductive Tr where
 | l0 (t : Token)
 | l1 (t : Token) (a : Tr)
 | l2 (t : Token) (a b : Tr)
def Tr.tok : Tr → Token
 | .l0 t => t
 | .l1 t _ => t
 | .l2 t _ _ => t
def Tr.kids : Tr → List Tr
 | .l0 _ => []
 | .l1 _ a => [a]
 | .l2 _ a b => [a, b]
def Tr.flat : Tr → List Token
 | .l0 t => [t]
 | .l1 t a => a.flat ++ [t]
 | .l2 t a b => a.flat ++ b.flat ++ [t]
def Tr.sz : Tr → Nat
 | .l0 _ => 1
 | .l1 _ a => a.sz + 1
 | .l2 _ a b => a.sz + b.sz + 1
theorem Tr.flat_len : ∀ t : Tr, t.flat.length = t.sz
 | .l0 _ => rfl
 | .l1 _ a => by simp [Tr.flat, Tr.sz, flat_len a]
 | .l2 _ a b => by simp [Tr.flat, Tr.sz, flat_len a, flat_len b, Nat.add_assoc]
theorem Tr.sz_pos : ∀ t : Tr, 0 < t.sz
 | .l0 _ => Nat.one_pos
 | .l1 _ _ => Nat.succ_pos _
 | .l2 _ _ _ => Nat.succ_pos _
def arT (t : Token) : Int :=
 if t.kind = 1 ∨ t.kind = 2 then (if t.letter = 0 ∧ t.low = 0 ∧ t.high = 0 then 0 else -1)
 else if t.kind = 3 then (if (0 ≤ t.letter ∧ t.letter ≤ 8) ∧ t.low = 0 ∧ t.high = 0 then 0 else -1)
 else if t.kind = 4 ∨ t.kind = 5 then (if t.letter = 0 ∧ t.low = 0 ∧ t.high = 0 then 2 else -1)
 else if t.kind = 6 then (if t.letter = 0 ∧ t.low = 0 ∧ t.high = 0 then 1 else -1)
 else if t.kind = 7 then (if t.letter = 0 ∧ (1 ≤ t.high ∧ t.high ≤ 3) ∧ (0 ≤ t.low ∧ t.low ≤ t.high) then 1 else -1)
 else -1
def arK (k : Int) : Int := if k = 4 ∨ k = 5 then 2 else if k = 6 ∨ k = 7 then 1 else 0
theorem Zmu {t : Token} (h : 0 ≤ arT t) : arT t = arK t.kind := by
 unfold arT arK at *
 repeat' split at h
 all_goals first | omega | (repeat' split) <;> omega
def Okd : Tr → Prop
 | .l0 t => arT t = 0
 | .l1 t a => arT t = 1 ∧ Okd a
 | .l2 t a b => arT t = 2 ∧ Okd a ∧ Okd b
theorem Okd.ar {t : Tr} (h : Okd t) : arT t.tok = t.kids.length := by
 cases t with
 | l0 t => exact h
 | l1 t a => exact h.1
 | l2 t a b => exact h.1
end Go.KLib

namespace Go.KLib
def acs (a : Addr) : List Value := [.pointer (some a)]
def Cel (w : World) (p : Addr) (cs : List Value) : Prop := ∀ j u, cs[j]? = some u → w.cell? (p.add j) = some u
theorem Cel.ch {w w' : World} {p : Addr} {cs : List Value} {ws : List Nat} (h : Cel w p cs) (c : Ch ws w w') (hn : p.block ∉ ws) : Cel w' p cs :=
 fun j u hu => c.cell (h j u hu) (by rwa [Zcf])
def TrF (w : World) (F : Nat → Prop) : Addr → Tr → Prop
 | p, .l0 t => F p.block ∧ ∃ A C, Cel w p (t.cs ++ [.slice A 0 C]) ∧ C ≤ maxLen
 | p, .l1 t a => F p.block ∧ ∃ d C q, Cel w p (t.cs ++ [.slice (some d) 1 C]) ∧ 1 ≤ C ∧ C ≤ maxLen ∧ F d.block ∧ Cel w d [.pointer (some q)] ∧ TrF w F q a
 | p, .l2 t a b => F p.block ∧ ∃ d C q r, Cel w p (t.cs ++ [.slice (some d) 2 C]) ∧ 2 ≤ C ∧ C ≤ maxLen ∧ F d.block ∧ Cel w d [.pointer (some q), .pointer (some r)] ∧ TrF w F q a ∧ TrF w F r b
section
variable {w w' : World} {F G : Nat → Prop} {p : Addr} {t : Tr} {ws : List Nat} {L L' B B' : Nat}
theorem TrF.ch (c : Ch ws w w') (hw : ∀ i, F i → i ∉ ws) : ∀ {t : Tr} {p : Addr}, TrF w F p t → TrF w' F p t
 | .l0 _, _, ⟨h0, A, C, h1, h2⟩ => ⟨h0, A, C, h1.ch c (hw _ h0), h2⟩
 | .l1 _ _, _, ⟨h0, d, C, q, h1, h2, h3, h4, h5, h6⟩ => ⟨h0, d, C, q, h1.ch c (hw _ h0), h2, h3, h4, h5.ch c (hw _ h4), h6.ch c hw⟩
 | .l2 _ _ _, _, ⟨h0, d, C, q, r, h1, h2, h3, h4, h5, h6, h7⟩ => ⟨h0, d, C, q, r, h1.ch c (hw _ h0), h2, h3, h4, h5.ch c (hw _ h4), h6.ch c hw, h7.ch c hw⟩
theorem TrF.mono (hF : ∀ i, F i → G i) : ∀ {t : Tr} {p : Addr}, TrF w F p t → TrF w G p t
 | .l0 _, _, ⟨h0, A, C, h1, h2⟩ => ⟨hF _ h0, A, C, h1, h2⟩
 | .l1 _ _, _, ⟨h0, d, C, q, h1, h2, h3, h4, h5, h6⟩ => ⟨hF _ h0, d, C, q, h1, h2, h3, hF _ h4, h5, h6.mono hF⟩
 | .l2 _ _ _, _, ⟨h0, d, C, q, r, h1, h2, h3, h4, h5, h6, h7⟩ => ⟨hF _ h0, d, C, q, r, h1, h2, h3, hF _ h4, h5, h6.mono hF, h7.mono hF⟩
theorem Cel.lt {v : Value} {cs : List Value} (h : Cel w p (v :: cs)) : p.block < w.heap.size := by
 have := World.block_lt_of_cell? w _ (h 0 v rfl)
 rwa [Zcf] at this
theorem TrF.here : ∀ {t : Tr} {p : Addr}, TrF w F p t → TrF w (fun b => b < w.heap.size ∧ F b) p t
 | .l0 _, _, ⟨h0, A, C, h1, h2⟩ => ⟨⟨Cel.lt h1, h0⟩, A, C, h1, h2⟩
 | .l1 _ _, _, ⟨h0, d, C, q, h1, h2, h3, h4, h5, h6⟩ => ⟨⟨Cel.lt h1, h0⟩, d, C, q, h1, h2, h3, ⟨Cel.lt h5, h4⟩, h5, h6.here⟩
 | .l2 _ _ _, _, ⟨h0, d, C, q, r, h1, h2, h3, h4, h5, h6, h7⟩ => ⟨⟨Cel.lt h1, h0⟩, d, C, q, r, h1, h2, h3, ⟨Cel.lt h5, h4⟩, h5, h6.here, h7.here⟩
def TrAt (w : World) (L B : Nat) (p : Addr) (t : Tr) : Prop := TrF w (fun b => L ≤ b ∧ b < B) p t
theorem TrAt.ch (h : TrAt w L B p t) (c : Ch ws w w') (hw : ∀ i ∈ ws, i < L ∨ B ≤ i) : TrAt w' L B p t := TrF.ch c (fun i hi hm => by have := hw i hm; omega) h
theorem TrAt.ch0 (h : TrAt w L B p t) (c : Ch [] w w') : TrAt w' L B p t := h.ch c (by simp)
theorem TrAt.up (h : TrAt w L B p t) (hL : L' ≤ L) (hB : B ≤ B') : TrAt w L' B' p t := TrF.mono (fun i hi => ⟨Nat.le_trans hL hi.1, Nat.lt_of_lt_of_le hi.2 hB⟩) h
theorem TrAt.here (h : TrAt w L B p t) : TrAt w L w.heap.size p t := TrF.mono (fun _ h => ⟨h.2.1, h.1⟩) (TrF.here h)
def Kd (w : World) (L B : Nat) (ps : List Addr) (ts : List Tr) : Prop := ps.length = ts.length ∧ ∀ (i : Nat) (q : Addr) (t : Tr), ps[i]? = some q → ts[i]? = some t → TrAt w L B q t
variable {ps : List Addr} {ts : List Tr}
theorem Kd.ch (h : Kd w L B ps ts) (c : Ch ws w w') (hw : ∀ i ∈ ws, i < L ∨ B ≤ i) : Kd w' L B ps ts := ⟨h.1, fun i q t a b => (h.2 i q t a b).ch c hw⟩
theorem Kd.ch0 (h : Kd w L B ps ts) (c : Ch [] w w') : Kd w' L B ps ts := h.ch c (by simp)
theorem Kd.up (h : Kd w L B ps ts) (hL : L' ≤ L) (hB : B ≤ B') : Kd w L' B' ps ts := ⟨h.1, fun i q t a b => (h.2 i q t a b).up hL hB⟩
theorem Kd.get (h : Kd w L B ps ts) {i : Nat} {y : Addr} (hy : ps[i]? = some y) : ∃ k, ts[i]? = some k ∧ TrAt w L B y k := by
 have hi := (List.getElem?_eq_some_iff.1 hy).1
 have hx : ts[i]? = some (ts[i]'(by have := h.1; omega)) := List.getElem?_eq_getElem _
 exact ⟨_, hx, h.2 i y _ hy hx⟩
theorem Kd.nil : Kd w L B [] [] := ⟨rfl, fun _ _ _ h => by simp at h⟩
theorem Kd.cons {q : Addr} (h : TrAt w L B q t) (r : Kd w L B ps ts) : Kd w L B (q :: ps) (t :: ts) := by
 refine ⟨by simp [r.1], fun i u y a b => ?_⟩
 cases i with
 | zero => simp at a b; subst a b; exact h
 | succ i => exact r.2 i u y (by simpa using a) (by simpa using b)
theorem Cel.at {cs : List Value} (h : Cel w p cs) (hb : L ≤ p.block ∧ p.block < B) : At w L B p cs := ⟨hb, h⟩
theorem TrAt.open (h : TrAt w L B p t) : ∃ (A : Option Addr) (C : Nat) (ps : List Addr), At w L B p [.int .i64 t.tok.kind, .int .i64 t.tok.letter, .int .i64 t.tok.low, .int .i64 t.tok.high, .slice A ps.length C] ∧ Ls acs 1 w L B (.slice A ps.length C) ps ∧ Kd w L B ps t.kids := by
 cases t with
 | l0 k =>
  obtain ⟨h0, A, C, h1, h2⟩ := h
  exact ⟨A, C, [], ⟨h0, h1⟩, ⟨rfl, A, C, rfl, Nat.zero_le _, h2, fun h => absurd h (by simp)⟩, Kd.nil⟩
 | l1 k a =>
  obtain ⟨h0, d, C, q, h1, h2, h3, h4, h5, h6⟩ := h
  exact ⟨some d, C, [q], ⟨h0, h1⟩, ⟨rfl, some d, C, rfl, h2, h3, fun _ => ⟨d, rfl, h4, h5⟩⟩, Kd.cons h6 Kd.nil⟩
 | l2 k a b =>
  obtain ⟨h0, d, C, q, r, h1, h2, h3, h4, h5, h6, h7⟩ := h
  exact ⟨some d, C, [q, r], ⟨h0, h1⟩, ⟨rfl, some d, C, rfl, h2, h3, fun _ => ⟨d, rfl, h4, h5⟩⟩, Kd.cons h6 (Kd.cons h7 Kd.nil)⟩
def mkTr (t : Token) : List Tr → Tr
 | [] => .l0 t
 | [a] => .l1 t a
 | a :: b :: _ => .l2 t a b
def KdF (w : World) (F : Nat → Prop) (ps : List Addr) (ts : List Tr) : Prop := ps.length = ts.length ∧ ∀ (i : Nat) (q : Addr) (t : Tr), ps[i]? = some q → ts[i]? = some t → TrF w F q t
theorem TrF.mk {k : Token} {v : Value} (hp : F p.block) (hc : Cel w p (k.cs ++ [v])) (hs : Ls acs 1 w L B v ps) (hF : ∀ A n c, v = .slice (some A) n c → 0 < n → F A.block) (hk : KdF w F ps ts) (h2 : ps.length ≤ 2) : TrF w F p (mkTr k ts) := by
 obtain ⟨hl, A, C, rfl, hn, hm, hA⟩ := hs
 obtain ⟨he, hk⟩ := hk
 match ps, ts, he with
 | [], [], _ => exact ⟨hp, A, C, hc, hm⟩
 | [q], [a], _ =>
  obtain ⟨d, rfl, hd⟩ := hA (by simp)
  exact ⟨hp, d, C, q, hc, hn, hm, hF _ _ _ rfl (by simp), hd.2, hk 0 q a rfl rfl⟩
 | [q, r], [a, b], _ =>
  obtain ⟨d, rfl, hd⟩ := hA (by simp)
  exact ⟨hp, d, C, q, r, hc, hn, hm, hF _ _ _ rfl (by simp), hd.2, hk 0 q a rfl rfl, hk 1 r b rfl rfl⟩
 | _ :: _ :: _ :: _, _, _ => simp at h2
end
end Go.KLib

namespace Go.KLib
section
variable {P : Program} {w : World} {l : KL} {dst : Option Tmp} {ty : TypeId} {pos : String} {aft : Array Go.Edge} {gd : Option (Nat × Bool)} {K : Value → World → Prop}
theorem Zix {t e : TypeId} (h : elB P t = some e) : P.underlying t = some (.slice (P.elem t)) ∧ P.elem t = e := by
 have h1 := Zab h
 have h2 : P.elem t = e := by simp [Program.elem, h1]
 exact ⟨by rw [h2]; exact h1, h2⟩
def cutV (v : Value) (k lo hi : Nat) : Value :=
 match v with
 | .slice A n c => sliced A lo hi c k
 | v => v
theorem Zkq (v : Value) (k lo hi : Nat) : bl (cutV v k lo hi) = bl v := by
 cases v <;> try rfl
 rename_i A n c
 cases A with
 | none => simp [cutV, sliced, bl, Value.ownBlock]
 | some a =>
  simp only [cutV, sliced, Option.map_some]
  split
  ·rfl
  simp [bl, Value.ownBlock, Zcf]
theorem Zjb {t e : TypeId} {k n c lo hi : Nat} {A : Option Addr} (ht : elB P t = some e) (hk : Ya P e = some k) (L H : Option Value)
   (hL : (∃ q, L = some (.int q (lo : Int))) ∨ (L = none ∧ lo = 0)) (hH : (∃ q, H = some (.int q (hi : Int))) ∨ (H = none ∧ hi = n)) (h1 : lo ≤ hi) (h2 : hi ≤ c) (hn : n ≤ c) :
   (Instr.sliceAt t (.slice A n c) L H none).run P w = .ok (cutV (.slice A n c) k lo hi) w := by
 obtain ⟨hu, he⟩ := Zix ht
 have hs : (sizeOf (P.elem t)).run P w = .ok k w := by rw [he]; exact Qn hk
 rw [run_sliceAt_slice (P := P) (w := w) t _ _ _ _ hu]
 rcases hL with ⟨q, rfl⟩ | ⟨rfl, rfl⟩ <;> rcases hH with ⟨q', rfl⟩ | ⟨rfl, rfl⟩
 ·rw [run_slice_lh (P := P) (w := w) t A n c hu q q' lo hi (by omega) (by omega) (by omega), hs]; rfl
 ·rw [run_slice_l (P := P) (w := w) t A hi c hu q lo (by omega) (by omega), hs]; rfl
 ·rw [run_slice_h (P := P) (w := w) t A n c hu q' hi (by omega) (by omega), hs]; rfl
 rw [run_slice_all (P := P) (w := w) t A hi c hu, hs]; rfl
variable {α : Type} {cs : α → List Value} {e k L B : Nat} {v : Value} {xs : List α}
theorem Zdj (hc : ∀ x, (cs x).length = k) (xs : List α) (i : Nat) : (xs.drop i).flatMap cs = (xs.flatMap cs).drop (i * k) := by
 induction xs generalizing i with
 | nil => simp
 | cons x xs ih =>
  cases i with
  | zero => simp
  | succ i =>
   rw [List.drop_succ_cons, ih, List.flatMap_cons, show (i + 1) * k = (cs x).length + i * k by rw [hc x, Nat.succ_mul, Nat.add_comm], List.drop_length_add_append]
theorem Zdo (hc : ∀ x, (cs x).length = k) (xs : List α) (i : Nat) : (xs.take i).flatMap cs = (xs.flatMap cs).take (i * k) := by
 induction xs generalizing i with
 | nil => simp
 | cons x xs ih =>
  cases i with
  | zero => simp
  | succ i =>
   rw [List.take_succ_cons, List.flatMap_cons, ih, List.flatMap_cons, show (i + 1) * k = (cs x).length + i * k by rw [hc x, Nat.succ_mul, Nat.add_comm], List.take_length_add_append]
theorem Zhl (hc : ∀ x, (cs x).length = k) (xs : List α) (lo n : Nat) : ((xs.drop lo).take n).flatMap cs = ((xs.flatMap cs).drop (lo * k)).take (n * k) := by
 rw [Zdo hc, Zdj hc]
theorem Ls.cut (h : Ls cs k w L B v xs) (hc : ∀ x, (cs x).length = k) {lo hi : Nat} (h1 : lo ≤ hi) (h2 : hi ≤ xs.length) : Ls cs k w L B (cutV v k lo hi) ((xs.drop lo).take (hi - lo)) := by
 obtain ⟨hl, A, c, rfl, hn, hm, hA⟩ := h
 have hlen : ((xs.drop lo).take (hi - lo)).length = hi - lo := by rw [List.length_take, List.length_drop]; omega
 refine ⟨by rw [flat_len hc], _, _, by rw [hlen]; rfl, by omega, by omega, fun h0 => ?_⟩
 rw [hlen] at h0
 obtain ⟨ad, rfl, ha⟩ := hA (by omega)
 rw [if_neg (by omega)]
 refine ⟨ad.add (lo * k), rfl, ?_⟩
 have h3 := ha.sub (lo * k) ((hi - lo) * k)
 rw [← Zhl hc] at h3
 exact h3
theorem Ol.cut (h : Ol cs e k w v xs) (hc : ∀ x, (cs x).length = k) {lo hi : Nat} (h1 : lo ≤ hi) (h2 : hi ≤ xs.length) : Ol cs e k w (cutV v k lo hi) ((xs.drop lo).take (hi - lo)) := by
 have hlen : ((xs.drop lo).take (hi - lo)).length = hi - lo := by rw [List.length_take, List.length_drop]; omega
 refine ⟨by rw [flat_len hc], ?_⟩
 rcases h.2 with ⟨rfl, h0⟩ | ⟨g, off, cap, cur, rfl, hg, hn, hm, hf, ht⟩
 ·refine .inl ⟨?_, by omega⟩
  obtain rfl : hi = 0 := by omega
  obtain rfl : lo = 0 := by omega
  rfl
 refine .inr ⟨g, if cap = lo then off else off + lo * k, cap - lo, cur, ?_, hg, by omega, by omega, ?_, ?_⟩
 ·rw [hlen]
  simp only [cutV, sliced]
  split
  ·rfl
  simp [add_lit]
 ·split
  ·rename_i hcl
   subst hcl
   have : off ≤ cur.size := by
    have := Nat.le_trans (Nat.le_add_right off (cap * k)) hf
    exact this
   simp; omega
  have h5 : lo * k + (cap - lo) * k = cap * k := by rw [← Nat.add_mul]; congr 1; omega
  omega
 rw [Zhl hc, ← ht, hlen]
 split
 ·have : hi - lo = 0 := by omega
  rw [this]; simp
 rw [← List.drop_drop, List.drop_take, List.take_take]
 congr 1
 have h6 : (hi - lo) * k + lo * k ≤ xs.length * k := by rw [← Nat.add_mul]; exact Nat.mul_le_mul_right _ (by omega)
 omega
def bndB (l : KL) (o : Option Operand) (dflt n : Nat) : Prop :=
 match o with
 | some x => ∃ q i, ev l x = some (.int q i) ∧ i = (n : Int)
 | none => n = dflt
theorem Zme {w' : World} {x : Operand} {t : TypeId} {Lo Hi : Option Operand} {lo hi : Nat} (hs : Ls cs k w L B v xs) (ht : elB P t = some e) (hk : Ya P e = some k) (hx : ev l x = some v)
   (hL : bndB l Lo 0 lo) (hH : bndB l Hi xs.length hi) (h1 : lo ≤ hi) (h2 : hi ≤ xs.length) : Qe P l ⟨dst, .slice t x Lo Hi none, ty, pos, aft, gd⟩ w' (cutV v k lo hi) w' := fun ρ hρ => by
 obtain ⟨hl, A, c, rfl, hn, hm, hA⟩ := hs
 have e1 := Zjb (P := P) (w := w') (A := A) (n := xs.length) (c := c) ht hk (Lo.map ρ) (Hi.map ρ)
  (by cases Lo with
   | none => exact .inr ⟨rfl, hL⟩
   | some y => obtain ⟨q, i, hq, rfl⟩ := hL; exact .inl ⟨q, by simp [hρ _ _ hq]⟩)
  (by cases Hi with
   | none => exact .inr ⟨rfl, hH⟩
   | some y => obtain ⟨q, i, hq, rfl⟩ := hH; exact .inl ⟨q, by simp [hρ _ _ hq]⟩) h1 (Nat.le_trans h2 hn) hn
 unfold execOp
 simp only [Option.map_none, hρ _ _ hx, Sem.run_bind, e1, Result.andThen_ok, Sem.run_pure]
theorem Zeu {e' : TypeId} {x : Operand} {t : TypeId} {Lo Hi : Option Operand} {ys : List α} (lo hi : Nat) (hs : Ol cs e' k w v xs) (hc : ∀ x, (cs x).length = k) (ht : elB P t = some e) (hk : Ya P e = some k) (hx : ev l x = some v)
   (hL : bndB l Lo 0 lo) (hH : bndB l Hi xs.length hi) (h1 : lo ≤ hi) (h2 : hi ≤ xs.length) (hy : (xs.drop lo).take (hi - lo) = ys)
   (kk : ∀ v', Ol cs e' k w v' ys → bl v' = bl v → ys.length = hi - lo → K v' w) : Step P l ⟨dst, .slice t x Lo Hi none, ty, pos, aft, gd⟩ w K :=
 Step.of (Zme hs.ls ht hk hx hL hH h1 h2) (kk _ (hy ▸ hs.cut hc h1 h2) (Zkq _ _ _ _) (by rw [← hy, List.length_take, List.length_drop]; omega))
theorem Zht {S : World → Prop} {G : Value → Prop} {x : Operand} {t : TypeId} {Lo Hi : Option Operand} {ys : List α} (lo hi : Nat) (hs : Ls cs k w L B v xs) (hc : ∀ x, (cs x).length = k) (ht : elB P t = some e) (hk : Ya P e = some k) (hx : ev l x = some v)
   (hL : bndB l Lo 0 lo) (hH : bndB l Hi xs.length hi) (h1 : lo ≤ hi) (h2 : hi ≤ xs.length) (hy : (xs.drop lo).take (hi - lo) = ys)
   (kk : ∀ v', Ls cs k w L B v' ys → bl v' = bl v → ys.length = hi - lo → G v') : Tk P S l ⟨dst, .slice t x Lo Hi none, ty, pos, aft, gd⟩ G :=
 Tk.of (fun _ _ => Zme hs ht hk hx hL hH h1 h2) (kk _ (hy ▸ hs.cut hc h1 h2) (Zkq _ _ _ _) (by rw [← hy, List.length_take, List.length_drop]; omega))
theorem Zcb (xs : List α) (lo : Nat) : (xs.drop lo).take (xs.length - lo) = xs.drop lo := List.take_of_length_le (by rw [List.length_drop]; exact Nat.le_refl _)
end
section
variable {P : Program} {w : World} {l : KL} {dst : Option Tmp} {ty : TypeId} {pos : String} {aft : Array Go.Edge} {gd : Option (Nat × Bool)} {x y : Operand} {xt yt : TypeId} {p : Option Addr}
end
theorem Zgp {P : Program} {w : World} {l : KL} {dst : Option Tmp} {ty : TypeId} {pos : String} {aft : Array Go.Edge} {gd : Option (Nat × Bool)} {x : Operand} {s field off a n : Nat} {p : Addr} (hs : faB P s field = some off)
   (h : ev l x = some (.pointer (some (p.add a)))) (hn : n = a + off) : Qe P l ⟨dst, .fieldAddr s x field, ty, pos, aft, gd⟩ w (.pointer (some (p.add n))) w := by
 have := Zd (P := P) (w := w) (dst := dst) (ty := ty) (pos := pos) (aft := aft) (gd := gd) hs h
 rwa [add_add, ← hn] at this
section
variable {P : Program} {N : Nat} {Q : Po} {l : KL} {w : World} {ops : Array Oper} {rest : List Oper}
theorem Zjm {S : World → Prop} {fuel : Nat} {listed : Array Bool} {d : Nat} {b : Bool} (hd : look l d = some (.bool b)) (hb : b = true) (h : DR P N ops Q S fuel listed ((d, .bool true) :: l) w) : DR P N ops Q S fuel listed l w := by subst hb; exact Zhb (Sub.cons hd (Sub.refl l)) h
theorem Zjo {S : World → Prop} {fuel : Nat} {listed : Array Bool} {d : Nat} {b : Bool} (hd : look l d = some (.bool b)) (hb : b = false) (h : DR P N ops Q S fuel listed ((d, .bool false) :: l) w) : DR P N ops Q S fuel listed l w := by subst hb; exact Zhb (Sub.cons hd (Sub.refl l)) h
end
def Sep (v : Value) (vs : List Sv) : Prop := ∀ u ∈ vs, ∀ g ∈ bl u.v, g ∉ bl v
end Go.KLib

namespace Go.KLib
def Tks (w : World) (L : Nat) (v : Value) (ps : List Addr) (st : List Tr) : Prop := KdF w (fun b => L ≤ b ∧ b < w.heap.size ∧ b ∉ bl v) ps st.reverse
theorem Tks.nil (w : World) (L : Nat) (v : Value) : Tks w L v [] [] := ⟨rfl, fun _ _ _ h => by simp at h⟩
theorem KdF.ch {w w' : World} {F : Nat → Prop} {ps : List Addr} {ts : List Tr} {ws : List Nat} (h : KdF w F ps ts) (c : Ch ws w w') (hw : ∀ i, F i → i ∉ ws) : KdF w' F ps ts :=
 ⟨h.1, fun i q t a b => (h.2 i q t a b).ch c hw⟩
theorem KdF.mono {w : World} {F G : Nat → Prop} {ps : List Addr} {ts : List Tr} (h : KdF w F ps ts) (hF : ∀ i, F i → G i) : KdF w G ps ts :=
 ⟨h.1, fun i q t a b => (h.2 i q t a b).mono hF⟩
theorem KdF.drop {w : World} {F : Nat → Prop} {ps : List Addr} {ts : List Tr} (h : KdF w F ps ts) (k : Nat) : KdF w F (ps.drop k) (ts.drop k) :=
 ⟨by simp [h.1], fun i q t a b => h.2 (k + i) q t (by simpa using a) (by simpa using b)⟩
theorem KdF.take {w : World} {F : Nat → Prop} {ps : List Addr} {ts : List Tr} (h : KdF w F ps ts) (k : Nat) : KdF w F (ps.take k) (ts.take k) := by
 refine ⟨by simp [h.1], fun i q t a b => ?_⟩
 rw [List.getElem?_take] at a b
 split at a
 ·rename_i hi; rw [if_pos hi] at b; exact h.2 i q t a b
 cases a
theorem KdF.snoc {w : World} {F : Nat → Prop} {ps : List Addr} {ts : List Tr} {p : Addr} {t : Tr} (h : KdF w F ps ts) (ht : TrF w F p t) : KdF w F (ps ++ [p]) (ts ++ [t]) := by
 refine ⟨by simp [h.1], fun i q u a b => ?_⟩
 rcases Zar a with ⟨a1, a2⟩ | ⟨a1, a2⟩
 ·rcases Zar b with ⟨b1, b2⟩ | ⟨b1, b2⟩
  ·exact h.2 i q u a2 b2
  have := h.1; omega
 rcases Zar b with ⟨b1, b2⟩ | ⟨b1, b2⟩
 ·have := h.1; omega
 subst a2 b2; exact ht
theorem Tks.one {w : World} {v : Value} {ps : List Addr} {st : List Tr} {q : Addr} {L : Nat} (h : Tks w L v ps st) (hl : (ps.length : Int) = 1) (hq : ps[0]? = some q) : ∃ t, st = [t] ∧ TrAt w L w.heap.size q t := by
 have h1 : st.length = 1 := by have := h.1; simp at this; omega
 match st, h1 with
 | [t], _ => exact ⟨t, rfl, (h.2 0 q t hq rfl).mono fun _ h => ⟨h.1, h.2.1⟩⟩
theorem Tks.len {w : World} {v : Value} {ps : List Addr} {st : List Tr} {L : Nat} (h : Tks w L v ps st) : ps.length = st.length := by have := h.1; simpa using this
end Go.KLib

namespace Go.KLib
theorem Okd.len {t : Tr} (h : Okd t) : ((t.tok.kind = 4 ∨ t.tok.kind = 5) → t.kids.length = 2) ∧ ((t.tok.kind = 6 ∨ t.tok.kind = 7) → t.kids.length = 1) ∧ (¬ (t.tok.kind = 4 ∨ t.tok.kind = 5 ∨ t.tok.kind = 6 ∨ t.tok.kind = 7) → t.kids.length = 0) := by
 have h1 := h.ar
 have h2 := Zmu (t := t.tok) (by rw [h1]; omega)
 rw [h1] at h2
 unfold arK at h2
 split at h2
 ·omega
 split at h2 <;> omega
theorem Okd.one {t : Tr} (h : Okd t) (hk : t.tok.kind = 6 ∨ t.tok.kind = 7) : ∃ k a, t = .l1 k a := by
 have := h.len.2.1 hk
 cases t with
 | l0 k => simp [Tr.kids] at this
 | l1 k a => exact ⟨k, a, rfl⟩
 | l2 k a b => simp [Tr.kids] at this
theorem Okd.zero {t : Tr} (h : Okd t) (hk : ¬ (t.tok.kind = 4 ∨ t.tok.kind = 5 ∨ t.tok.kind = 6 ∨ t.tok.kind = 7)) : ∃ k, t = .l0 k := by
 have := h.len.2.2 hk
 cases t with
 | l0 k => exact ⟨k, rfl⟩
 | l1 k a => simp [Tr.kids] at this
 | l2 k a b => simp [Tr.kids] at this
theorem Znc {l a : List Token} {k : Token} (hl : l = a ++ [k]) : l.length = a.length + 1 := by subst hl; simp
theorem Okd.k1 {t : Tr} {l : List Token} {y : Token} (h : Okd t) (h2 : t.kids.length = 1) (ht : y = t.tok) (hl : l = t.flat) : ∃ a, t = .l1 y a ∧ Okd a ∧ l = a.flat ++ [y] ∧ l.length = a.flat.length + 1 := by
 subst ht hl
 cases t <;> simp [Tr.kids] at h2
 rename_i k a
 exact ⟨a, rfl, h.2, rfl, Znc rfl⟩
theorem Okd.k0 {t : Tr} {y : Token} (h2 : t.kids.length = 0) (ht : y = t.tok) : t = .l0 y := by
 subst ht
 cases t <;> simp [Tr.kids] at h2
 rfl
section
variable {x a b : Tr}
end
theorem Tr.k0 {t : Tr} (h : t.kids.length = 0) : ∃ k, t = .l0 k := by
 cases t <;> simp [Tr.kids] at h
 exact ⟨_, rfl⟩
theorem Tr.k1 {t : Tr} (h : t.kids.length = 1) : ∃ k a, t = .l1 k a := by
 cases t <;> simp [Tr.kids] at h
 exact ⟨_, _, rfl⟩
end Go.KLib

namespace Go.KLib
section
variable {P : Program} {w : World} {l : KL} {dst : Option Tmp} {ty : TypeId} {pos : String} {aft : Array Go.Edge} {gd : Option (Nat × Bool)} {x y : Operand} {ts : Array TypeId} {k k' : IntKind} {a b : Int}
theorem Zmc (hx : ev l x = some (.int k a)) (hy : ev l y = some (.int k' b)) : Qe P l ⟨dst, .call { callee := .builtin .max, args := #[x, y], argTypes := ts }, ty, pos, aft, gd⟩ w (.int k (if b > a then b else a)) w := fun ρ hρ => by
 simp [execOp, resolve, invoke, builtin, hρ _ _ hx, hρ _ _ hy, run_max_int2]
end
def KdN (w : World) (L bo : Nat) (v : Value) (ps : List Addr) (ts : List Tr) : Prop := KdF w (fun b => L ≤ b ∧ b < w.heap.size ∧ b ≠ bo ∧ b ∉ bl v) ps ts
theorem KdN.nil (w : World) (L bo : Nat) (v : Value) : KdN w L bo v [] [] := ⟨rfl, fun _ _ _ h => by simp at h⟩
theorem KdN.grow {w0 w1 w2 : World} {L bo a b : Nat} {v v2 : Value} {ps : List Addr} {ts : List Tr} {q : Addr} {t : Tr} (h : KdN w0 L bo v ps ts) (hL : L ≤ w0.heap.size) (hv : ∀ g ∈ bl v, g < w0.heap.size) (hbo : bo < w0.heap.size) (c1 : Ch [] w0 w1)
   (hq : TrAt w1 a b q t) (ha : w0.heap.size ≤ a) (hb : b ≤ w1.heap.size) (c2 : Ch (bl v) w1 w2) (b2 : bl v2 = bl v ∨ bl v2 = [w1.heap.size]) : KdN w2 L bo v2 (ps ++ [q]) (ts ++ [t]) := by
 have h1 : KdF w1 (fun b => L ≤ b ∧ b < w1.heap.size ∧ b ≠ bo ∧ b ∉ bl v) ps ts := (KdF.ch h c1 (by simp)).mono fun i hi => ⟨hi.1, Nat.lt_of_lt_of_le hi.2.1 c1.size, hi.2.2⟩
 have h2 := h1.snoc (t := t) (p := q) (hq.mono fun i hi => ⟨by omega, by omega, by omega, fun hm => by have := hv i hm; omega⟩)
 have h3 := h2.ch c2 fun i hi hm => hi.2.2.2 hm
 refine h3.mono fun i hi => ⟨hi.1, Nat.lt_of_lt_of_le hi.2.1 c2.size, hi.2.2.1, fun hm => ?_⟩
 rcases b2 with e | e
 ·rw [e] at hm; exact hi.2.2.2 hm
 rw [e] at hm; have := List.mem_singleton.1 hm; omega
theorem KdN.bo {w0 w1 : World} {L bo : Nat} {v : Value} {ps : List Addr} {ts : List Tr} (h : KdN w0 L bo v ps ts) (c : Ch [bo] w0 w1) : KdN w1 L bo v ps ts :=
 (KdF.ch h c fun i hi hm => hi.2.2.1 (List.mem_singleton.1 hm)).mono fun i hi => ⟨hi.1, Nat.lt_of_lt_of_le hi.2.1 c.size, hi.2.2⟩
theorem KdN.done {w : World} {L bo e ty B : Nat} {v : Value} {ps : List Addr} {ts : List Tr} {k : Token} (h : KdN w L bo v ps ts) (hm : Blk w bo ty [.int .i64 k.kind, .int .i64 k.letter, .int .i64 k.low, .int .i64 k.high, v]) (hL : L ≤ bo)
   (hv : Ol acs e 1 w v ps) (hl : ∀ g ∈ bl v, L ≤ g) (h2 : ps.length ≤ 2) (hB : w.heap.size ≤ B) : TrAt w L B ⟨bo, 0, none⟩ (mkTr k ts) := by
 refine TrF.mk (v := v) (ps := ps) ⟨hL, Nat.lt_of_lt_of_le hm.lt hB⟩ (fun j x hx => ?_) hv.ls (fun A n c hA _ => ?_) (KdF.mono h fun i hi => ⟨hi.1, Nat.lt_of_lt_of_le hi.2.1 hB⟩) h2
 ·rw [add_lit, hm.cell]; simpa [Token.cs] using hx
 subst hA
 have hg : A.block ∈ bl (.slice (some A) n c) := by simp [bl, Value.ownBlock]
 exact ⟨hl _ hg, Nat.lt_of_lt_of_le (hv.lt _ hg) hB⟩
end Go.KLib

namespace Go.KLib
section
variable {q : Int} {x a b : Tr}
end
section
variable {e : List Token} {x : Int} {t : Tr}
end
end Go.KLib

namespace Go.KLib
section
variable {x a b : Tr} {low high : Int}
end
section
variable {e : List Token} {t : Tr}
end
theorem TrAt.mk {w : World} {L B bo e ty : Nat} {k : Token} {v : Value} {ps : List Addr} {ts : List Tr} (hm : Blk w bo ty [.int .i64 k.kind, .int .i64 k.letter, .int .i64 k.low, .int .i64 k.high, v]) (hL : L ≤ bo)
   (hv : Ol acs e 1 w v ps) (hl : ∀ g ∈ bl v, L ≤ g) (hk : Kd w L B ps ts) (h2 : ps.length ≤ 2) (hB : B ≤ w.heap.size) : TrAt w L w.heap.size ⟨bo, 0, none⟩ (mkTr k ts) := by
 refine TrF.mk (v := v) (ps := ps) ⟨hL, hm.lt⟩ (fun j x hx => ?_) hv.ls (fun A n c hA _ => ?_) ⟨hk.1, fun i q t a b => ((hk.2 i q t a b).up (Nat.le_refl _) hB)⟩ h2
 ·rw [add_lit, hm.cell]; simpa [Token.cs] using hx
 subst hA
 have hg : A.block ∈ bl (.slice (some A) n c) := by simp [bl, Value.ownBlock]
 exact ⟨hl _ hg, hv.lt _ hg⟩
theorem TrAt.lb {w : World} {L B : Nat} {p : Addr} {t : Tr} (h : TrAt w L B p t) : L < B := by
 cases t with
 | l0 t => obtain ⟨h0, _⟩ := h; exact Nat.lt_of_le_of_lt h0.1 h0.2
 | l1 t a => obtain ⟨h0, _⟩ := h; exact Nat.lt_of_le_of_lt h0.1 h0.2
 | l2 t a b => obtain ⟨h0, _⟩ := h; exact Nat.lt_of_le_of_lt h0.1 h0.2
end Go.KLib

namespace Go.KLib
section
variable {α : Type} {cs : α → List Value} {e k lo hi : Nat} {w w' : World} {vs : List Sv} {xs : List (List α)}
theorem Od.set {i : Nat} {v : Sv} {x x' : List α} (h : Od cs e k w lo hi vs xs) (hv : vs[i]? = some v) (hx : xs[i]? = some x) (c : Ch (bl v.v) w w') (ho : Ol cs e k w' v.v x') : Od cs e k w' lo hi vs (xs.set i x') := by
 have hi' := (List.getElem?_eq_some_iff.1 hx).1
 refine ⟨by simp [h.1], fun j u y a b => ?_, h.2.2⟩
 rw [List.getElem?_set] at b
 by_cases e1 : i = j
 ·subst e1
  rw [if_pos rfl, if_pos hi'] at b
  injection b with b; subst b
  rw [hv] at a; injection a with a; subst a
  exact ⟨ho, (h.2.1 i v x hv hx).2⟩
 rw [if_neg e1] at b
 refine ⟨(h.2.1 j u y a b).1.ch c fun g hg hm => ?_, (h.2.1 j u y a b).2⟩
 rcases Nat.lt_or_gt_of_ne e1 with h1 | h1
 ·exact h.2.2 i j v u hv a h1 g hm hg
 exact h.2.2 j i u v a hv h1 g hg hm
theorem Od.ownget (h : Od cs e k w lo hi vs xs) {i : Nat} {y : Sv} (hy : vs[i]? = some y) : ∃ x, xs[i]? = some x ∧ Ol cs e k w y.v x ∧ (∀ g ∈ bl y.v, lo ≤ g ∧ g < hi) := by
 have hi := (List.getElem?_eq_some_iff.1 hy).1
 have hx : xs[i]? = some (xs[i]'(by have := h.1; omega)) := List.getElem?_eq_getElem _
 exact ⟨_, hx, h.2.1 i y _ hy hx⟩
theorem Qf {β : Type} {l : List β} {i : Nat} {y : β} (h : l[i]? = some y) : y ∈ l := by
 obtain ⟨hi, rfl⟩ := List.getElem?_eq_some_iff.1 h; exact List.getElem_mem hi
end
theorem Zmi {P : Program} {w : World} {l : KL} {dst : Option Tmp} {ty : TypeId} {pos : String} {aft : Array Go.Edge} {gd : Option (Nat × Bool)} {x y : Operand} {xt yt : TypeId} {a b : Int} (hb : ¬ b = 0) (hx : ev l x = some (.int .i64 a)) (hy : ev l y = some (.int .i64 b)) :
   Qe P l ⟨dst, .binOp .rem xt x y yt, ty, pos, aft, gd⟩ w (.int .i64 (a.tmod b)) w := fun ρ hρ => by
 simp [execOp, hρ _ _ hx, hρ _ _ hy, eqGuard, binOp, Op.intDiv, hb]
section
variable {S : Int} {N : List (List Int)} {n j s k : Nat} {l : List Bool} {r : List Int} {y : Int}
def Gone (N : List (List Int)) (o : List Bool) (s : Nat) : Prop := ∀ t, Zik N s t → o[t]? = some true
theorem Gone.set {o : List Bool} {i : Nat} (h : Gone N o s) : Gone N (o.set i true) s := fun t ht => Zkf (h t ht)
end
end Go.KLib

namespace Go.KLib
section
variable {α : Type} {cs : α → List Value} {e k lo hi : Nat} {w w' : World} {vs : List Sv} {xs : List (List α)}
theorem Od.chS {o : Value} (h : Od cs e k w lo hi vs xs) (c : Ch (bl o) w w') (hs : Sep o vs) : Od cs e k w' lo hi vs xs :=
 ⟨h.1, fun i v x a b => ⟨(h.2.1 i v x a b).1.ch c (hs v (Qf a)), (h.2.1 i v x a b).2⟩, h.2.2⟩
end
end Go.KLib

namespace Go.KLib
end Go.KLib

namespace Go.KLib
section
variable (L : List Int) (f : Int) (F wd : List Int)
end
section
variable {L : List Int} {f : Int} {F wd : List Int} {i s k : Nat} {y c x : Int}
end
end Go.KLib

namespace Go.KLib
def Xq (n : Int) (e : GEdge) : Prop := (1 ≤ e.id ∧ e.id ≤ 99) ∧ (0 ≤ e.f ∧ e.f ≤ n) ∧ (0 ≤ e.t ∧ e.t ≤ n) ∧ (0 ≤ e.label ∧ e.label ≤ 2)
def Zgs (V : List Int) (k : Nat) : Prop := ∀ (i : Nat) (v : Int), i < k → V[i]? = some v → 0 ≤ v ∧ v ≤ 2
def Zco (n : Int) (E : List GEdge) (k : Nat) : Prop := ∀ (i : Nat) (e : GEdge), i < k → E[i]? = some e → Xq n e ∧ ∀ d, 0 < i → E[i - 1]? = some d → d.id < e.id
def Xn (V : List Int) (E : List GEdge) : Prop := Zgs V V.length ∧ Zco ((V.length : Int) - 1) E E.length ∧ (1 ≤ V.length ∧ V.length ≤ 5) ∧ E.length ≤ 12
theorem Zgn (V : List Int) : Zgs V 0 := fun _ _ h => absurd h (by omega)
theorem Zgg {V : List Int} {k : Nat} {y : Int} (h : Zgs V k) (hy : V[k]? = some y) (h1 : 0 ≤ y ∧ y ≤ 2) : Zgs V (k + 1) := fun i v hi hv => by
 by_cases e : i = k
 ·subst e; rw [hy] at hv; injection hv with hv; subst hv; exact h1
 exact h i v (by omega) hv
theorem Zbg {V : List Int} {k : Nat} {y : Int} {E : List GEdge} (h : Xn V E) (hy : V[k]? = some y) : 0 ≤ y ∧ y ≤ 2 := h.1 k y (List.getElem?_eq_some_iff.1 hy).1 hy
theorem Zfk (n : Int) (E : List GEdge) : Zco n E 0 := fun _ _ h => absurd h (by omega)
theorem Zia {n : Int} {E : List GEdge} {k : Nat} {y d : GEdge} (h : Zco n E k) (hy : E[k]? = some y) (h1 : Xq n y) (hd : E[k - 1]? = some d) (h2 : d.id < y.id) : Zco n E (k + 1) := fun i e hi he => by
 by_cases q : i = k
 ·subst q; rw [hy] at he; injection he with he; subst he
  exact ⟨h1, fun d' _ hd' => by rw [hd] at hd'; injection hd' with hd'; subst hd'; exact h2⟩
 exact h i e (by omega) he
theorem Zcm {n : Int} {E : List GEdge} {k : Nat} {y : GEdge} (h : Zco n E k) (hy : E[k]? = some y) (h1 : Xq n y) (h0 : ¬ 0 < k) : Zco n E (k + 1) := fun i e hi he => by
 by_cases q : i = k
 ·subst q; rw [hy] at he; injection he with he; subst he
  exact ⟨h1, fun d' h3 => absurd h3 h0⟩
 exact h i e (by omega) he
theorem Zbh {V : List Int} {k : Nat} {y : GEdge} {E : List GEdge} (h : Xn V E) (hy : E[k]? = some y) : Xq ((V.length : Int) - 1) y := (h.2.1 k y (List.getElem?_eq_some_iff.1 hy).1 hy).1
theorem Zkd {V : List Int} {k : Nat} {y d : GEdge} {E : List GEdge} (h : Xn V E) (hy : E[k]? = some y) (h0 : 0 < k) (hd : E[k - 1]? = some d) : d.id < y.id := (h.2.1 k y (List.getElem?_eq_some_iff.1 hy).1 hy).2 d h0 hd
theorem Zae {V : List Int} {k j : Nat} {y d : GEdge} {E : List GEdge} (h : Xn V E) (hy : E[k]? = some y) (hd : E[j]? = some d) (hj : j + 1 = k) : d.id < y.id := by
 subst hj; exact Zkd h hy (by omega) hd
theorem Zcl {n : Int} {E : List GEdge} {k j : Nat} {y d : GEdge} (h : Zco n E k) (hy : E[k]? = some y) (h1 : Xq n y) (hd : E[j]? = some d) (hj : j + 1 = k) (h2 : d.id < y.id) : Zco n E (k + 1) := by
 subst hj; exact Zia h hy h1 hd h2
theorem vg_y {V : List Int} {E : List GEdge} {k q : Nat} (hv : Zgs V k) (hk : V.length ≤ k) (he : Zco ((V.length : Int) - 1) E q) (hq : E.length ≤ q) (h : 1 ≤ V.length ∧ V.length ≤ 5) : decide ((E.length : Int) ≤ 12) = tt (Xn V E) := by
 rw [Zdc]
 exact Zeo ⟨fun h2 => ⟨fun i v hi hx => hv i v (by omega) hx, fun i e hi hx => he i e (by omega) hx, h, by omega⟩, fun h2 => by have := h2.2.2.2; omega⟩
end Go.KLib

namespace Go.KLib
theorem Od.rng {α : Type} {cs : α → List Value} {e k : Nat} {w : World} {lo hi : Nat} {vs : List Sv} {xs : List (List α)} (h : Od cs e k w lo hi vs xs) {u : Sv} (hu : u ∈ vs) {g : Nat} (hg : g ∈ bl u.v) : lo ≤ g ∧ g < hi := by
 obtain ⟨i, hi, rfl⟩ := List.getElem_of_mem hu
 obtain ⟨x, _, _, h3⟩ := h.ownget (List.getElem?_eq_getElem hi)
 exact h3 g hg
def keyE (C : List Int) (t : Int) : Int := if t < 0 then -1 else C.getD t.toNat 0
def keyC (C : List Int) (r : List Int) (c : Int) : List Int := c :: r.map (keyE C)
def rfn (C : List Int) (N : List (List Int)) : Nat → List (List Int) × List Int
 | 0 => ([], [])
 | s + 1 =>
  let p := rfn C N s
  let c := C.getD s 0
  if c < 0 then (p.1, p.2 ++ [-1])
  else if keyC C (N.getD s []) c ∈ p.1 then (p.1, p.2 ++ [(p.1.idxOf (keyC C (N.getD s []) c) : Int)])
  else (p.1 ++ [keyC C (N.getD s []) c], p.2 ++ [(p.1.length : Int)])
section
variable {C : List Int} {N : List (List Int)}
theorem Znb {s : Nat} (h : C.getD s 0 < 0) : rfn C N (s + 1) = ((rfn C N s).1, (rfn C N s).2 ++ [-1]) := by
 show (if _ then _ else _) = _
 rw [if_pos h]
theorem Znj {s : Nat} (h : ¬ C.getD s 0 < 0) (hk : keyC C (N.getD s []) (C.getD s 0) ∈ (rfn C N s).1) : rfn C N (s + 1) = ((rfn C N s).1, (rfn C N s).2 ++ [((rfn C N s).1.idxOf (keyC C (N.getD s []) (C.getD s 0)) : Int)]) := by
 show (if _ then _ else _) = _
 rw [if_neg h, if_pos hk]
theorem Zli {s : Nat} (h : ¬ C.getD s 0 < 0) (hk : ¬ keyC C (N.getD s []) (C.getD s 0) ∈ (rfn C N s).1) : rfn C N (s + 1) = ((rfn C N s).1 ++ [keyC C (N.getD s []) (C.getD s 0)], (rfn C N s).2 ++ [((rfn C N s).1.length : Int)]) := by
 show (if _ then _ else _) = _
 rw [if_neg h, if_neg hk]
theorem Zez (C : List Int) (N : List (List Int)) (s : Nat) :
   (C.getD s 0 < 0 ∧ rfn C N (s + 1) = ((rfn C N s).1, (rfn C N s).2 ++ [-1])) ∨
   (¬ C.getD s 0 < 0 ∧ keyC C (N.getD s []) (C.getD s 0) ∈ (rfn C N s).1 ∧ rfn C N (s + 1) = ((rfn C N s).1, (rfn C N s).2 ++ [((rfn C N s).1.idxOf (keyC C (N.getD s []) (C.getD s 0)) : Int)])) ∨
   (¬ C.getD s 0 < 0 ∧ ¬ keyC C (N.getD s []) (C.getD s 0) ∈ (rfn C N s).1 ∧ rfn C N (s + 1) = ((rfn C N s).1 ++ [keyC C (N.getD s []) (C.getD s 0)], (rfn C N s).2 ++ [((rfn C N s).1.length : Int)])) := by
 by_cases h : C.getD s 0 < 0
 ·exact .inl ⟨h, Znb h⟩
 by_cases hk : keyC C (N.getD s []) (C.getD s 0) ∈ (rfn C N s).1
 ·exact .inr (.inl ⟨h, hk, Znj h hk⟩)
 exact .inr (.inr ⟨h, hk, Zli h hk⟩)
theorem Zja (C : List Int) (N : List (List Int)) : ∀ s, (rfn C N s).2.length = s ∧ (rfn C N s).1.length ≤ s
 | 0 => ⟨rfl, Nat.le_refl _⟩
 | s + 1 => by
  obtain ⟨h1, h2⟩ := Zja C N s
  rcases Zez C N s with ⟨_, e⟩ | ⟨_, _, e⟩ | ⟨_, _, e⟩ <;> rw [e] <;> simp <;> omega
end
def clsD (N : List (List Int)) (D0 : List Int) (n : Nat) : Nat → List Int
 | 0 => D0
 | i + 1 => (rfn (clsD N D0 n i) N n).2
section
variable {N : List (List Int)} {D0 : List Int} {n : Nat}
end
section
variable {C : List Int} {N : List (List Int)} {s k : Nat} {r : List Int} {c t y : Int}
theorem Zan {β : Type} {l : List β} {i : Nat} {x d : β} (h : l[i]? = some x) : l.getD i d = x := by rw [List.getD_eq_getElem?_getD, h]; rfl
end
section
variable {C : List Int} {N : List (List Int)} {s : Nat} {c : Int}
end
section
variable {C : List Int} {N : List (List Int)} {s m : Nat} {c a : Int} {x : List Int}
end
def clsI (A L : List Bool) (k : Nat) : List Int := (List.range k).map fun s => if L.getD s false = false then -1 else if A.getD s false then 1 else 0
theorem Zjw (A L : List Bool) (k : Nat) : (clsI A L k).length = k := by simp [clsI]
end Go.KLib

namespace Go.KLib
open Go.ChangeShapes Go.WideShapes Go.ChangeAt Go.RowKit Go.Deep Go.Joins
structure Gv where
 v : Sv
 e : Sv
def Gv.cs (p : Gv) : List Value := [.slice p.v.A p.v.n p.v.c, .slice p.e.A p.e.n p.e.c]
theorem Gv.len (p : Gv) : p.cs.length = 2 := rfl
theorem Gv.one (x : Gv) : ∀ y ∈ x.cs, y.oneCell' = true := by intro y hy; simp [Gv.cs] at hy; rcases hy with rfl | rfl <;> rfl
structure GD where
 V : List Int
 E : List GEdge
def RdG (w : World) (L B : Nat) (vs : List Gv) (xs : List GD) : Prop :=
 vs.length = xs.length ∧ ∀ (i : Nat) (p : Gv) (x : GD), vs[i]? = some p → xs[i]? = some x → Ls ics 1 w L B p.v.v x.V ∧ Ls GEdge.cs 4 w L B p.e.v x.E
section
variable {L L' B B' : Nat} {w w' : World} {vs : List Gv} {xs : List GD} {ws : List Nat}
theorem RdG.ch (h : RdG w L B vs xs) (c : Ch ws w w') (hw : ∀ i ∈ ws, i < L ∨ B ≤ i) : RdG w' L B vs xs := ⟨h.1, fun i v x a b => ⟨(h.2 i v x a b).1.ch c hw, (h.2 i v x a b).2.ch c hw⟩⟩
theorem RdG.ch0 (h : RdG w L B vs xs) (c : Ch [] w w') : RdG w' L B vs xs := h.ch c (by simp)
theorem RdG.up (h : RdG w L B vs xs) (hL : L' ≤ L) (hB : B ≤ B') : RdG w L' B' vs xs := ⟨h.1, fun i v x a b => ⟨(h.2 i v x a b).1.up hL hB, (h.2 i v x a b).2.up hL hB⟩⟩
theorem RdG.here (h : RdG w L B vs xs) : RdG w L w.heap.size vs xs := ⟨h.1, fun i v x a b => ⟨(h.2 i v x a b).1.here (by decide), (h.2 i v x a b).2.here (by decide)⟩⟩
theorem RdG.nil : RdG w L B [] [] := ⟨rfl, fun _ _ _ h => by simp at h⟩
theorem Ol.within {α : Type} {cs : α → List Value} {e k : Nat} {w : World} {v : Value} {xs : List α} {L B L0 B0 : Nat} (h : Ol cs e k w v xs) (hl : Lo L0 v) (hh : ∀ g ∈ bl v, g < B0) (h1 : L ≤ L0) (h2 : B0 ≤ B) : Ls cs k w L B v xs := by
 have hs := h.ls
 refine ⟨hs.1, ?_⟩
 obtain ⟨A, c, hv, h3, h4, h5⟩ := hs.2
 refine ⟨A, c, hv, h3, h4, fun hp => ?_⟩
 obtain ⟨ad, ha, hat⟩ := h5 hp
 have hm : ad.block ∈ bl v := by rw [hv, ha]; simp [bl, Value.ownBlock]
 exact ⟨ad, ha, ⟨Nat.le_trans h1 (hl _ hm), Nat.lt_of_lt_of_le (hh _ hm) h2⟩, hat.2⟩
theorem RdG.snoc {p : Gv} {x : GD} (r : RdG w L B vs xs) (h1 : Ls ics 1 w L B p.v.v x.V) (h2 : Ls GEdge.cs 4 w L B p.e.v x.E) : RdG w L B (vs ++ [p]) (xs ++ [x]) := by
 refine ⟨by simp [r.1], fun i u y a b => ?_⟩
 rcases Zar a with ⟨a1, a2⟩ | ⟨a1, a2⟩
 ·rcases Zar b with ⟨b1, b2⟩ | ⟨b1, b2⟩
  ·exact r.2 i u y a2 b2
  have := r.1; omega
 rcases Zar b with ⟨b1, b2⟩ | ⟨b1, b2⟩
 ·have := r.1; omega
 subst a2 b2; exact ⟨h1, h2⟩
theorem RdG.get (h : RdG w L B vs xs) {i : Nat} {y : Gv} (hy : vs[i]? = some y) : ∃ x, xs[i]? = some x ∧ Ls ics 1 w L B y.v.v x.V ∧ Ls GEdge.cs 4 w L B y.e.v x.E := by
 have hi := (List.getElem?_eq_some_iff.1 hy).1
 have hx : xs[i]? = some (xs[i]'(by have := h.1; omega)) := List.getElem?_eq_getElem _
 exact ⟨_, hx, h.2 i y _ hy hx⟩
end
theorem GD.ext2 {a b : GD} (h1 : a.V = b.V) (h2 : a.E = b.E) : a = b := by cases a; cases b; simp_all
theorem RdG.at_ {w : World} {L B : Nat} {vs : List Gv} {xs : List GD} (h : RdG w L B vs xs) : vs.length = xs.length := h.1
def Zau (xs : List GD) : Nat := (xs.map fun x => x.V.length + x.E.length).sum
theorem Zhy {xs : List GD} {k : Nat} {y : GD} (h : xs[k]? = some y) : Zau (xs.take (k + 1)) = Zau (xs.take k) + (y.V.length + y.E.length) := by
 unfold Zau; rw [Zbj h]; simp
theorem Zdi {xs : List GD} {k : Nat} {y : GD} (h : xs[k]? = some y) : Zau (xs.take k) + (y.V.length + y.E.length) ≤ Zau xs := by
 rw [← Zhy h]
 have e : Zau xs = Zau (xs.take (k + 1)) + Zau (xs.drop (k + 1)) := by
  unfold Zau; rw [← List.sum_append, ← List.map_append, List.take_append_drop]
 omega
section
variable {H : Type} {enc : TypeId × Value → H} {P : Program} {w : World} {base : Nat} {spare : Nat → Bool} {held : Bool}
end
def Zdx (G : List GD) (k : Nat) : Prop := ∀ (i : Nat) (x z : GD), i < k → G[i]? = some x → G[0]? = some z → Xn x.V x.E ∧ x.V = z.V
def Xw (F : Int) (G : List GD) : Prop := Zdx G G.length ∧ (1 ≤ G.length ∧ G.length ≤ 8) ∧ (1 ≤ F ∧ F ≤ 999 - G.length + 1)
theorem Zgo (G : List GD) : Zdx G 0 := fun _ _ _ h => absurd h (by omega)
theorem Zgi {G : List GD} {k : Nat} {y z : GD} (h : Zdx G k) (hy : G[k]? = some y) (hz : G[0]? = some z) (h1 : Xn y.V y.E) (h2 : y.V = z.V) : Zdx G (k + 1) := fun i x z' hi hx hz' => by
 by_cases q : i = k
 ·subst q; rw [hy] at hx; injection hx with hx; subst hx; rw [hz] at hz'; injection hz' with hz'; subst hz'; exact ⟨h1, h2⟩
 exact h i x z' (by omega) hx hz'
theorem Zbi {F : Int} {G : List GD} (h : Xw F G) {k : Nat} {y : GD} (hy : G[k]? = some y) : Xn y.V y.E := by
 have hk := (List.getElem?_eq_some_iff.1 hy).1
 exact (h.1 k y _ hk hy (List.getElem?_eq_getElem (by omega))).1
theorem Zaz {F : Int} {G : List GD} (h : Xw F G) {k : Nat} {y z : GD} (hy : G[k]? = some y) (hz : G[0]? = some z) : y.V = z.V := by
 have hk := (List.getElem?_eq_some_iff.1 hy).1
 exact (h.1 k y z hk hy hz).2
theorem vh_y {F : Int} {G : List GD} {k : Nat} (hs : Zdx G k) (hk : G.length ≤ k) (h1 : 1 ≤ G.length ∧ G.length ≤ 8) : decide (1 ≤ F ∧ F ≤ (999 - (G.length : Int)) + 1) = tt (Xw F G) := by
 rw [Zdc]
 exact Zeo ⟨fun h => ⟨fun i x z hi hx hz => hs i x z (by omega) hx hz, h1, by omega⟩, fun h => by have := h.2.2; omega⟩
theorem vh_t {F : Int} {G : List GD} {k : Nat} (hs : Zdx G k) (hk : G.length ≤ k) (h1 : 1 ≤ G.length ∧ G.length ≤ 8) (h2 : 1 ≤ F ∧ F ≤ (999 - (G.length : Int)) + 1) : true = tt (Xw F G) := by
 rw [← vh_y hs hk h1, decide_eq_true h2]
noncomputable def lvR (F : Int) (G : List GD) : Int := bif tt (Xw F G) then F + G.length - 1 else 0
theorem lv_y {F : Int} {G : List GD} (h : Xw F G) : F + G.length - 1 = lvR F G := by unfold lvR; rw [← Xt h]; rfl
theorem lv_n {F : Int} {G : List GD} (h : ¬ Xw F G) : 0 = lvR F G := by unfold lvR; rw [← Zu h]; rfl
end Go.KLib

namespace Go.KLib
section
variable {T : Type} [DecidableEq T]
def bx (nx : T → Nat → T) (e : T × List Int) (E : List (T × List Int)) : Nat → List (T × List Int)
 | 0 => E
 | k + 1 => if nx e.1 k ∈ (bx nx e E k).map (·.1) then bx nx e E k else bx nx e E k ++ [(nx e.1 k, e.2 ++ [(k : Int)])]
def bE (nx : T → Nat → T) (t0 : T) : Nat → List (T × List Int)
 | 0 => [(t0, [])]
 | k + 1 => match (bE nx t0 k)[k]? with
  | none => bE nx t0 k
  | some e => bx nx e (bE nx t0 k) 9
variable {nx : T → Nat → T} {t0 : T} {ts : T → Bool}
end
end Go.KLib

namespace Go.KLib
open Go.Sort Go.RowKit
end Go.KLib

namespace Go.KLib
end Go.KLib

namespace Go.KLib
open Go.Sort Go.RowKit Go.Shelf Go.Proofs
section
variable {P : Program} {ρ : Ren} {w : World} {e : TypeId} {v : Value} {a : List Int}
end
end Go.KLib

namespace Go.KLib
def SepG (vs : List Gv) : Prop := ∀ u ∈ vs, ∀ t ∈ vs, ∀ g ∈ bl u.v.v, g ∉ bl t.e.v
def OdG (e1 e2 : Nat) (w : World) (lo hi : Nat) (vs : List Gv) (xs : List GD) : Prop :=
 vs.length = xs.length ∧ Od ics e1 1 w lo hi (vs.map (·.v)) (xs.map (·.V)) ∧ Od GEdge.cs e2 4 w lo hi (vs.map (·.e)) (xs.map (·.E)) ∧ SepG vs
section
variable {e1 e2 lo hi hi' : Nat} {w w' : World} {vs : List Gv} {xs : List GD} {ws : List Nat}
theorem OdG.ch (h : OdG e1 e2 w lo hi vs xs) (c : Ch ws w w') (hw : ∀ i ∈ ws, i < lo ∨ hi ≤ i) : OdG e1 e2 w' lo hi vs xs := ⟨h.1, h.2.1.ch c hw, h.2.2.1.ch c hw, h.2.2.2⟩
theorem OdG.ch0 (h : OdG e1 e2 w lo hi vs xs) (c : Ch [] w w') : OdG e1 e2 w' lo hi vs xs := h.ch c (by simp)
theorem OdG.up {lo' : Nat} (h : OdG e1 e2 w lo hi vs xs) (hl : lo' ≤ lo) (hh : hi ≤ hi') : OdG e1 e2 w lo' hi' vs xs := ⟨h.1, h.2.1.up hl hh, h.2.2.1.up hl hh, h.2.2.2⟩
theorem OdG.nil : OdG e1 e2 w lo hi [] [] := ⟨rfl, Od.nil, Od.nil, fun _ h => by cases h⟩
theorem Zcu {α β : Type} {l : List α} {f : α → β} {i : Nat} {y : α} (h : l[i]? = some y) : (l.map f)[i]? = some (f y) := by rw [List.getElem?_map, h]; rfl
theorem OdG.get (h : OdG e1 e2 w lo hi vs xs) {i : Nat} {y : Gv} (hy : vs[i]? = some y) : ∃ x, xs[i]? = some x ∧ Ol ics e1 1 w y.v.v x.V ∧ Ol GEdge.cs e2 4 w y.e.v x.E ∧ (∀ g ∈ bl y.v.v, lo ≤ g ∧ g < hi) ∧ (∀ g ∈ bl y.e.v, lo ≤ g ∧ g < hi) ∧ (∀ g ∈ bl y.v.v, g ∉ bl y.e.v) := by
 have hi := (List.getElem?_eq_some_iff.1 hy).1
 have hx : xs[i]? = some (xs[i]'(by have := h.1; omega)) := List.getElem?_eq_getElem _
 have h1 := h.2.1.2.1 i _ _ (Zcu (f := (·.v)) hy) (Zcu (f := (·.V)) hx)
 have h2 := h.2.2.1.2.1 i _ _ (Zcu (f := (·.e)) hy) (Zcu (f := (·.E)) hx)
 exact ⟨_, hx, h1.1, h2.1, h1.2, h2.2, h.2.2.2 y (Qf hy) y (Qf hy)⟩
theorem OdG.rdg (h : OdG e1 e2 w lo hi vs xs) : RdG w lo hi vs xs := ⟨h.1, fun i p x a b => by
 obtain ⟨x', hx, o1, o2, r1, r2, _⟩ := h.get a
 rw [b] at hx; injection hx with hx; subst hx
 exact ⟨o1.within (fun g hg => (r1 g hg).1) (fun g hg => (r1 g hg).2) (Nat.le_refl _) (Nat.le_refl _), o2.within (fun g hg => (r2 g hg).1) (fun g hg => (r2 g hg).2) (Nat.le_refl _) (Nat.le_refl _)⟩⟩
theorem OdG.rng (h : OdG e1 e2 w lo hi vs xs) {u : Gv} (hu : u ∈ vs) : (∀ g ∈ bl u.v.v, lo ≤ g ∧ g < hi) ∧ (∀ g ∈ bl u.e.v, lo ≤ g ∧ g < hi) := by
 obtain ⟨i, hi, rfl⟩ := List.getElem_of_mem hu
 obtain ⟨x, _, _, _, r1, r2, _⟩ := h.get (List.getElem?_eq_getElem hi)
 exact ⟨r1, r2⟩
theorem OdG.snoc (h : OdG e1 e2 w lo hi vs xs) {p : Gv} {x : GD} (o1 : Ol ics e1 1 w p.v.v x.V) (o2 : Ol GEdge.cs e2 4 w p.e.v x.E) (l1 : Lo hi p.v.v) (l2 : Lo hi p.e.v) (u1 : ∀ g ∈ bl p.v.v, g < hi') (u2 : ∀ g ∈ bl p.e.v, g < hi') (hd : ∀ g ∈ bl p.v.v, g ∉ bl p.e.v) (hh : hi ≤ hi') (hlo : lo ≤ hi) : OdG e1 e2 w lo hi' (vs ++ [p]) (xs ++ [x]) := by
 refine ⟨by simp [h.1], ?_, ?_, fun u hu t ht g hg hm => ?_⟩
 ·rw [List.map_append, List.map_append]; exact h.2.1.snoc o1 l1 u1 hh hlo
 ·rw [List.map_append, List.map_append]; exact h.2.2.1.snoc o2 l2 u2 hh hlo
 rcases List.mem_append.1 hu with hu | hu <;> rcases List.mem_append.1 ht with ht | ht
 ·exact h.2.2.2 u hu t ht g hg hm
 ·rw [List.mem_singleton.1 ht] at hm
  have a := ((h.rng hu).1 g hg).2; have b := l2 g hm; omega
 ·rw [List.mem_singleton.1 hu] at hg
  have a := ((h.rng ht).2 g hm).2; have b := l1 g hg; omega
 rw [List.mem_singleton.1 hu] at hg; rw [List.mem_singleton.1 ht] at hm; exact hd g hg hm
def SepH (o : Value) (vs : List Gv) : Prop := ∀ u ∈ vs, (∀ g ∈ bl u.v.v, g ∉ bl o) ∧ ∀ g ∈ bl u.e.v, g ∉ bl o
theorem OdG.chH {o : Value} (h : OdG e1 e2 w lo hi vs xs) (c : Ch (bl o) w w') (hs : SepH o vs) : OdG e1 e2 w' lo hi vs xs :=
 ⟨h.1, h.2.1.chS c fun u hu g hg => by obtain ⟨t, ht, rfl⟩ := List.mem_map.1 hu; exact (hs t ht).1 g hg, h.2.2.1.chS c fun u hu g hg => by obtain ⟨t, ht, rfl⟩ := List.mem_map.1 hu; exact (hs t ht).2 g hg, h.2.2.2⟩
end
def gaP (F : Int) (G : List GD) (n : Int) : Prop := Xw F G ∧ (F ≤ n ∧ n ≤ lvR F G)
noncomputable def gaR (F : Int) (G : List GD) (n : Int) : GD := bif tt (gaP F G n) then G.getD (n - F).toNat ⟨[], []⟩ else ⟨[], []⟩
theorem ga_n {F : Int} {G : List GD} {n : Int} (h : ¬ gaP F G n) : (⟨[], []⟩ : GD) = gaR F G n := by unfold gaR; rw [← Zu h]; rfl
theorem ga_y {F : Int} {G : List GD} {n : Int} {x : GD} (h1 : Xw F G) (h2 : F ≤ n ∧ n ≤ lvR F G) (hx : G[(n - F).toNat]? = some x) : x = gaR F G n := by
 have hp : gaP F G n := ⟨h1, h2⟩
 unfold gaR; rw [← Xt hp, List.getD_eq_getElem?_getD, hx]; rfl
theorem Zbo {F : Int} {G : List GD} (h : Xw F G) : lvR F G = F + G.length - 1 := (lv_y h).symm
theorem Zcr {F : Int} {G : List GD} (h : Xw F G) {k : Nat} {x : GD} (hx : G[k]? = some x) : x.V.length ≤ 5 ∧ x.E.length ≤ 12 := by
 have := Zbi h hx; exact ⟨this.2.2.1.2, this.2.2.2⟩
end Go.KLib

namespace Go.KLib
noncomputable def nhF (V : List Int) (E : List GEdge) (n : Int) : Int := bif tt (Xw n [⟨V, E⟩]) then n else 0
noncomputable def nhG (V : List Int) (E : List GEdge) (n : Int) : List GD := bif tt (Xw n [⟨V, E⟩]) then [⟨V, E⟩] else []
theorem Zla {V : List Int} {E : List GEdge} {n : Int} (h : Xw n [⟨V, E⟩]) : n = nhF V E n := by unfold nhF; rw [← Xt h]; rfl
theorem Zma {V : List Int} {E : List GEdge} {n : Int} (h : ¬ Xw n [⟨V, E⟩]) : 0 = nhF V E n := by unfold nhF; rw [← Zu h]; rfl
theorem Zmg {V : List Int} {E : List GEdge} {n : Int} (h : Xw n [⟨V, E⟩]) : [⟨V, E⟩] = nhG V E n := by unfold nhG; rw [← Xt h]; rfl
theorem Znd {V : List Int} {E : List GEdge} {n : Int} (h : ¬ Xw n [⟨V, E⟩]) : [] = nhG V E n := by unfold nhG; rw [← Zu h]; rfl
end Go.KLib

namespace Go.KLib
theorem Od.dropN {α : Type} {cs : α → List Value} {e k : Nat} {w : World} {lo hi : Nat} {vs : List Sv} {xs : List (List α)} (h : Od cs e k w lo hi vs xs) (n : Nat) : Od cs e k w lo hi (vs.drop n) (xs.drop n) := by
 refine ⟨by rw [List.length_drop, List.length_drop, h.1], fun i v x a b => ?_, fun i j u v a b hij => ?_⟩
 ·rw [List.getElem?_drop] at a b; exact h.2.1 _ v x a b
 rw [List.getElem?_drop] at a b; exact h.2.2 _ _ u v a b (by omega)
theorem OdG.dropN {e1 e2 lo hi : Nat} {w : World} {vs : List Gv} {xs : List GD} (h : OdG e1 e2 w lo hi vs xs) (n : Nat) : OdG e1 e2 w lo hi (vs.drop n) (xs.drop n) := by
 refine ⟨by rw [List.length_drop, List.length_drop, h.1], ?_, ?_, fun u hu t ht => h.2.2.2 u (List.mem_of_mem_drop hu) t (List.mem_of_mem_drop ht)⟩
 ·rw [List.map_drop, List.map_drop]; exact h.2.1.dropN n
 rw [List.map_drop, List.map_drop]; exact h.2.2.1.dropN n
theorem SepH.dropN {o : Value} {vs : List Gv} (h : SepH o vs) (n : Nat) : SepH o (vs.drop n) := fun u hu => h u (List.mem_of_mem_drop hu)
theorem SepH.of {o o' : Value} {vs : List Gv} (h : SepH o vs) (e : bl o' = bl o) : SepH o' vs := fun u hu => ⟨fun g hg hm => (h u hu).1 g hg (e ▸ hm), fun g hg hm => (h u hu).2 g hg (e ▸ hm)⟩
noncomputable def chF (F : Int) (G : List GD) (n : Int) : Int := bif tt (gaP F G n) then n else F
noncomputable def chG (F : Int) (G : List GD) (n : Int) : List GD := bif tt (gaP F G n) then G.drop (n - F).toNat else G
theorem Zbz {F : Int} {G : List GD} {n : Int} (h : gaP F G n) : n = chF F G n := by unfold chF; rw [← Xt h]; rfl
theorem Zfz {F : Int} {G : List GD} {n : Int} (h : ¬ gaP F G n) : F = chF F G n := by unfold chF; rw [← Zu h]; rfl
theorem Zgu {F : Int} {G : List GD} {n : Int} (h : gaP F G n) : G.drop (n - F).toNat = chG F G n := by unfold chG; rw [← Xt h]; rfl
theorem Zgb {F : Int} {G : List GD} {n : Int} (h : ¬ gaP F G n) : G = chG F G n := by unfold chG; rw [← Zu h]; rfl
end Go.KLib

namespace Go.KLib
open Go.MapKept
def Mp {T : Type} (kv : T → Value) (w : World) (b : Nat) (ks : List T) : Prop :=
 ∃ es clock, w.heap[b]? = some (.map es clock) ∧ es.toList.map (fun e => (e.key, e.val)) = ks.map (fun t => (kv t, Value.bool true))
section
variable {P : Program} {t : TypeId} {T : Type} [DecidableEq T] {kv : T → Value} {w w' : World} {b : Nat} {ks : List T} {ws : List Nat}
omit [DecidableEq T] in
theorem Mp.lt (h : Mp kv w b ks) : b < w.heap.size := by
 obtain ⟨es, c, hb, _⟩ := h
 rcases Nat.lt_or_ge b w.heap.size with hlt | hge
 ·exact hlt
 rw [Array.getElem?_eq_none hge] at hb; cases hb
omit [DecidableEq T] in
theorem Mp.ch (h : Mp kv w b ks) (c : Ch ws w w') (hn : b ∉ ws) : Mp kv w' b ks := by
 have hl := h.lt
 obtain ⟨es, k, hb, he⟩ := h
 exact ⟨es, k, (c.block b hl hn).trans hb, he⟩
omit [DecidableEq T] in
theorem Mp.ch0 (h : Mp kv w b ks) (c : Ch [] w w') : Mp kv w' b ks := h.ch c (by simp)
end
section
variable {P : Program} {N : Nat} {w : World} {l : KL} {dst : Option Tmp} {ty : TypeId} {pos : String} {aft : Array Edge} {gd : Option (Nat × Bool)} {K' : Value → World → Prop} {t kt et : TypeId} {T : Type} [DecidableEq T] {kv : T → Value} {b : Nat} {ks : List T}
end
structure St2 where
 a : Int
 b : Int
 deriving DecidableEq
def St2.cs (s : St2) : List Value := [.int .i64 s.a, .int .i64 s.b]
theorem St2.len (s : St2) : s.cs.length = 2 := rfl
theorem St2.one (x : St2) : ∀ y ∈ x.cs, y.oneCell' = true := by intro y hy; simp [St2.cs] at hy; rcases hy with rfl | rfl <;> rfl
section
variable {P : Program} {t : TypeId}
end
end Go.KLib

namespace Go.KLib
def val (w : List Int) : Nat := w.foldl (fun a c => 9 * a + c.toNat + 1) 0
def okW (w : List Int) : Prop := ∀ c ∈ w, 0 ≤ c ∧ c ≤ 8
theorem Zit : okW [] := fun _ h => by cases h
section
variable {T : Type} [DecidableEq T] {nx : T → Nat → T} {t0 : T} {ts : T → Bool}
def runT (nx : T → Nat → T) (t0 : T) (w : List Int) : T := w.foldl (fun t c => nx t c.toNat) t0
def Srt (E : List (T × List Int)) : Prop := E.Pairwise fun x y => val x.2 < val y.2
omit [DecidableEq T] in
theorem Srt.lt {E : List (T × List Int)} (h : Srt E) {i j : Nat} {x y : T × List Int} (hi : E[i]? = some x) (hj : E[j]? = some y) (hv : val x.2 < val y.2) : i < j := by
 obtain ⟨hi1, hi2⟩ := List.getElem?_eq_some_iff.1 hi
 obtain ⟨hj1, hj2⟩ := List.getElem?_eq_some_iff.1 hj
 rcases Nat.lt_trichotomy i j with q | q | q
 ·exact q
 ·subst q; rw [hi2] at hj2; rw [hj2] at hv; omega
 have := List.pairwise_iff_getElem.1 h j i hj1 hi1 q
 rw [hi2, hj2] at this; omega
end
end Go.KLib

namespace Go.KLib
section
variable {α : Type} [DecidableEq α]
end
end Go.KLib

namespace Go.KLib
open Go.Sort Go.RowKit Go.Shelf Go.Proofs
instance : Inhabited Pair := ⟨⟨0, 0⟩⟩
theorem Zih {α : Type} [Inhabited α] {cs : α → List Value} {k : Nat} (hc : ∀ x, (cs x).length = k) (xs : List α) : flatK cs k xs.toArray = (xs.flatMap cs).toArray := by
 apply Array.ext
 ·simp [flat_len hc]
 intro t h1 h2
 have ht : t < xs.length * k := by simpa using h1
 have k0 : 0 < k := by
  rcases Nat.eq_zero_or_pos k with h | h
  ·subst h; simp at ht
  exact h
 have hq : t / k < xs.length := (Nat.div_lt_iff_lt_mul k0).2 ht
 have hr : t % k < k := Nat.mod_lt _ k0
 have e1 := Zdf hc xs (t / k) _ (List.getElem?_eq_getElem hq)
 have e2 : ((xs.flatMap cs).drop (t / k * k)).take k = cs xs[t / k] := e1
 have e3 : (((xs.flatMap cs).drop (t / k * k)).take k)[t % k]? = (cs xs[t / k])[t % k]? := by rw [e2]
 rw [List.getElem?_take, if_pos hr, List.getElem?_drop, Nat.div_add_mod' t k] at e3
 have e4 := get_flatK cs k xs.toArray t (by simpa using ht)
 rw [getElem!_pos _ t h1] at e4
 rw [e4]
 simp only [List.getElem_toArray]
 have hlt : t < (xs.flatMap cs).length := by rw [flat_len hc]; exact ht
 have hcl : t % k < (cs xs[t / k]).length := by rw [hc]; exact hr
 rw [List.getElem?_eq_getElem hlt, List.getElem?_eq_getElem hcl] at e3
 injection e3 with e3
 rw [e3]
 rw [getElem!_pos (xs.toArray) (t / k) (by simpa using hq)]
 simp only [List.getElem_toArray]
 rw [getElem!_pos _ (t % k) hcl]
section
variable {α : Type} [Inhabited α] {cs : α → List Value} {k : Nat} {w : World} {e : TypeId} {g off cap n : Nat} {xs ys : List α}
end
instance (x y : Pair) : Decidable (Zmb x y) := by unfold Zmb; exact inferInstance
section
variable {P : Program} {ρ : Ren} {w : World} {e : TypeId} {v : Value} {a : List Pair}
end
end Go.KLib

namespace Go.KLib
open Go.Sort
theorem Zjl {α : Type} [Inhabited α] {cs : α → List Value} {k : Nat} (hc : ∀ x, (cs x).length = k) (z : Array Value) (z0 : α) (hz : z.toList = cs z0) (n : Nat) :
   (Builtin.zeroCells z n).toList = (List.replicate n z0).flatMap cs := by
 have hs : z.size = k := by rw [← Array.length_toList, hz, hc]
 have h := Zih hc (List.replicate n z0)
 have e : Builtin.zeroCells z n = flatK cs k (List.replicate n z0).toArray := by
  unfold Builtin.zeroCells flatK
  rw [hs]
  simp only [List.size_toArray, List.length_replicate]
  apply Array.ext
  ·simp
  intro i h1 h2
  have hi : i < n * k := by simpa using h1
  simp only [Array.getElem_map, Array.getElem_range]
  have k0 : 0 < k := by
   rcases Nat.eq_zero_or_pos k with q | q
   ·subst q; simp at hi
   exact q
  have hq : i / k < n := (Nat.div_lt_iff_lt_mul k0).2 hi
  have hr : i % k < k := Nat.mod_lt _ k0
  have e1 : (List.replicate n z0).toArray[i / k]! = z0 := by
   rw [getElem!_pos _ _ (by simpa using hq)]; simp
  rw [e1, ← hz]
  rw [getElem!_pos z (i % k) (by omega), getElem!_pos z.toList (i % k) (by simp; omega)]
  simp
 rw [e, h]
theorem Zif {β : Type} (C Z : List β) (off a : Nat) (h : off + a ≤ C.length) : ((C.take (off + a) ++ Z ++ C.drop (off + a + Z.length)).drop off).take (a + Z.length) = ((C.drop off).take a) ++ Z := by
 have h1 : ((C.drop off).take a).length = a := by rw [List.length_take, List.length_drop]; omega
 rw [List.append_assoc, List.drop_append_of_le_length (by rw [List.length_take]; omega), List.drop_take, show off + a - off = a by omega, ← List.append_assoc]
 rw [List.take_append_of_le_length (by rw [List.length_append, h1]; omega), List.take_of_length_le (by rw [List.length_append, h1]; omega)]
section
variable {P : Program} {w : World} {l : KL} {dst : Option Tmp} {ty : TypeId} {pos : String} {aft : Array Go.Edge} {gd : Option (Nat × Bool)} {K : Value → World → Prop}
variable {α : Type} {cs : α → List Value} {e k : Nat} {v : Value} {xs : List α}
theorem Zll [Inhabited α] {x : Operand} {t : TypeId} {e' : TypeId} {u zv : Value} {zro : α} {lo : Nat} (hs : Ol cs e' k w v xs) (hu : u = cutV v k lo xs.length) (hc : ∀ x, (cs x).length = k) (ht : elB P t = some e) (hk : Ya P e = some k) (hz : Yw P e = some zv) (hzc : zv.cells.toList = cs zro)
   (h1 : ∀ y ∈ cs zro, y.oneCell' = true) (hx : ev l x = some u) (hlo : lo ≤ xs.length)
   (kk : ∀ w', Ol cs e' k w' v (xs.take lo ++ List.replicate (xs.length - lo) zro) → Ch (bl v) w w' → K (.tuple #[]) w') :
   Step P l ⟨dst, .call { callee := .builtin .clear, args := #[x], argTypes := #[t] }, ty, pos, aft, gd⟩ w K := by
 rcases Nat.eq_or_lt_of_le hlo with he | hlt
 ·have e0 : ∃ A c, u = .slice A 0 c := by
   obtain ⟨hl, h⟩ := hs
   rcases h with ⟨rfl, h0⟩ | ⟨g, off, cap, cur, rfl, _⟩
   ·rw [hu, he]; exact ⟨_, _, by simp only [cutV, sliced, Nat.sub_self]; rfl⟩
   rw [hu, he]; exact ⟨_, _, by simp only [cutV, sliced, Nat.sub_self]; rfl⟩
  obtain ⟨A, c, hA⟩ := e0
  refine Step.of (v := .tuple #[]) (w' := w) (fun ρ hρ => ?_) (kk w ?_ (Ch.refl _ _))
  ·have h2 := hρ _ _ hx
   cases A with
   | none => simp [execOp, resolve, invoke, builtin, Builtin.clear_, run_underlying (Zab ht), h2, hA]
   | some ad => simp [execOp, resolve, invoke, builtin, Builtin.clear_, run_underlying (Zab ht), h2, hA]
  rw [he]; simpa using hs
 obtain ⟨hl, h⟩ := hs
 rcases h with ⟨rfl, h0⟩ | ⟨g, off, cap, cur, rfl, hg, hn, hm, hf, ht2⟩
 ·omega
 have hcl : ¬ cap = lo := by omega
 have hu2 : u = .slice (some ⟨g, off + lo * k, none⟩) (xs.length - lo) (cap - lo) := by
  rw [hu]; simp only [cutV, sliced]
  rw [if_neg hcl]
  simp [add_lit]
 have hzf := Zjl hc zv.cells zro hzc (xs.length - lo)
 have hzl : ((List.replicate (xs.length - lo) zro).flatMap cs).length = (xs.length - lo) * k := by rw [flat_len hc]; simp
 have hsum : lo * k + (xs.length - lo) * k = xs.length * k := by rw [← Nat.add_mul]; congr 1; omega
 have hcap : xs.length * k ≤ cap * k := Nat.mul_le_mul_right k hn
 have hst := run_storeCells_at (P := P) g (off + lo * k) e' ((List.replicate (xs.length - lo) zro).flatMap cs) 0 cur w hg (by rw [hzl]; omega) (by
  intro y hy
  obtain ⟨a, ha, hb⟩ := List.mem_flatMap.1 hy
  rw [(List.mem_replicate.1 ha).2] at hb
  exact h1 y hb)
 refine Step.of (v := .tuple #[]) (w' := w.setRow g (cur.toList.take (off + lo * k) ++ (List.replicate (xs.length - lo) zro).flatMap cs ++ cur.toList.drop (off + lo * k + ((List.replicate (xs.length - lo) zro).flatMap cs).length)).toArray) (fun ρ hρ => ?_) (kk _ ?_ (Ch.setRow w g _))
 ·have h2 := hρ _ _ hx
  simp only [Nat.add_zero] at hst
  obtain ⟨m, hm2⟩ : ∃ m, xs.length - lo = m + 1 := ⟨xs.length - lo - 1, by omega⟩
  rw [hu2] at h2
  rw [hm2] at h2 hzf hst ⊢
  simp [execOp, resolve, invoke, builtin, Builtin.clear_, run_underlying (Zab ht), h2, Zdn hz, hzf, hst]
 refine ⟨by rw [flat_len hc], .inr ⟨g, off, cap, _, ?_, Zaf hg, by simp; omega, hm, ?_, ?_⟩⟩
 ·simp; omega
 ·simp only [List.size_toArray, List.length_append, List.length_take, List.length_drop, Array.length_toList, hzl]; omega
 have hlen : (xs.take lo ++ List.replicate (xs.length - lo) zro).length = xs.length := by simp; omega
 rw [List.flatMap_append, Zdo hc, ← ht2, hlen, List.take_take, show min (lo * k) (xs.length * k) = lo * k by omega]
 have hcl2 : cur.toList.length = cur.size := Array.length_toList
 have := Zif cur.toList ((List.replicate (xs.length - lo) zro).flatMap cs) off (lo * k) (by omega)
 rw [hzl, hsum] at this
 rw [hzl]
 exact this
end
section
variable {α : Type} [DecidableEq α]
def ixP {β : Type} (p : β → Bool) (l : List β) : Int := if l.any p then ((l.findIdx p : Nat) : Int) else -1
theorem Zhw {β : Type} {p : β → Bool} {l : List β} {k : Nat} {y : β} (h : (l.take k).any p = false) (hy : l[k]? = some y) (hp : p y = true) : (k : Int) = ixP p l := by
 have hk := (List.getElem?_eq_some_iff.1 hy).1
 unfold ixP
 rw [if_pos (List.any_eq_true.2 ⟨y, Qf hy, hp⟩)]
 congr 1
 symm
 rw [List.findIdx_eq hk]
 refine ⟨?_, fun j hj => ?_⟩
 ·have := (List.getElem?_eq_some_iff.1 hy).2
  rw [this]; exact hp
 have h2 := List.any_eq_false.1 h (l[j]'(by omega)) (List.mem_take_iff_getElem.2 ⟨j, by omega, rfl⟩)
 simpa using h2
theorem Zhx {β : Type} {p : β → Bool} {l : List β} {k : Nat} (h : (l.take k).any p = false) (hk : l.length ≤ k) : -1 = ixP p l := by
 rw [List.take_of_length_le hk] at h
 unfold ixP; rw [h]; rfl
theorem Zfu {β : Type} {p : β → Bool} {l : List β} {k : Nat} {y : β} (h : (l.take k).any p = false) (hy : l[k]? = some y) (hp : p y = false) : (l.take (k + 1)).any p = false := by
 rw [Zbj hy, List.any_append, h]; simp [hp]
theorem Zlk {l : List α} {x : α} : decide (0 ≤ ixP (fun y => decide (x = y)) l) = decide (x ∈ l) := by
 unfold ixP
 by_cases h : x ∈ l
 ·rw [if_pos (List.any_eq_true.2 ⟨x, h, by simp⟩)]; simp [h]
 rw [if_neg (fun q => h (by obtain ⟨y, h1, h2⟩ := List.any_eq_true.1 q; simp at h2; rw [h2]; exact h1))]; simp [h]
end
end Go.KLib

namespace Go.KLib
structure Qt (T : Type) where
 x : T
 s : Sv
abbrev Qs := Qt St2
abbrev Qi := Qt Int
def Qs.cs (q : Qs) : List Value := [.int .i64 q.x.a, .int .i64 q.x.b, .slice q.s.A q.s.n q.s.c]
def Qi.cs (q : Qi) : List Value := [.int .i64 q.x, .slice q.s.A q.s.n q.s.c]
theorem Qs.len (s : Qs) : (Qs.cs s).length = 3 := rfl
theorem Qi.len (s : Qi) : (Qi.cs s).length = 2 := rfl
theorem Qs.one (x : Qs) : ∀ y ∈ Qs.cs x, y.oneCell' = true := by intro y hy; simp [Qs.cs] at hy; rcases hy with rfl | rfl | rfl <;> rfl
theorem Qi.one (x : Qi) : ∀ y ∈ Qi.cs x, y.oneCell' = true := by intro y hy; simp [Qi.cs] at hy; rcases hy with rfl | rfl <;> rfl
section
variable {T : Type}
def zq (E : List (T × List Int)) (V : List Sv) : List (Qt T) := List.zipWith (fun e s => ⟨e.1, s⟩) E V
end
section
variable {T : Type} [DecidableEq T] {nx : T → Nat → T} {t0 : T} {ts : T → Bool}
end
def nxI (N : List (List Int)) (s : Int) (k : Nat) : Int := Zkz N s k
section
variable {SA SB : Int} {A B : List Bool} {N M : List (List Int)}
end
section
variable {SA SB s t : Int} {A B : List Bool} {N M : List (List Int)}
end
structure GNode where
 a : Int
 b : Int
 apart : Bool
 frm : Int
 by_ : Int
def GNode.cs (p : GNode) : List Value := [.int .i64 p.a, .int .i64 p.b, .bool p.apart, .int .i64 p.frm, .int .i64 p.by_]
theorem GNode.len (p : GNode) : p.cs.length = 5 := rfl
theorem GNode.one (x : GNode) : ∀ y ∈ x.cs, y.oneCell' = true := by intro y hy; simp [GNode.cs] at hy; rcases hy with rfl | rfl | rfl | rfl | rfl <;> rfl
section
variable {T : Type} [DecidableEq T] {nx : T → Nat → T} {t0 : T}
end
section
variable {N M : List (List Int)} {L : List GNode} {E : List (St2 × List Int)} {e : St2 × List Int} {m k : Nat} {a b fr by_ : Int}
end
section
variable {T : Type} [DecidableEq T] {nx : T → Nat → T} {t0 : T} {ts : T → Bool}
end
section
variable {SA SB s t : Int} {A B : List Bool} {N M : List (List Int)}
end
end Go.KLib

namespace Go.KLib
theorem Zft {P : Program} {N : Nat} {ops : Array Oper} {Q : Po} {l : KL} {w : World} {S : World → Prop} {fuel : Nat} {listed : Array Bool} (i j m : Nat) (hr : Region.ready .any ops listed = [i, j, m])
   (h1 : DO P N ops Q S fuel listed i l w) (h2 : DO P N ops Q S fuel listed j l w) (h3 : DO P N ops Q S fuel listed m l w) : DR P N ops Q S (fuel + 1) listed l w :=
 Ziq hr (by simp) (by
  intro k hk
  rcases List.mem_cons.1 hk with rfl | hk
  ·exact h1
  rcases List.mem_cons.1 hk with rfl | hk
  ·exact h2
  rw [List.mem_singleton.1 hk]; exact h3)
section
variable {t ta tb : Tr} {L F : List Int}
end
end Go.KLib

namespace Go.KLib
def grow (n : Nat) (f : Nat → Nat → Bool) (i : Nat) : List Bool := (List.range n).map (f i)
def grd (n : Nat) (f : Nat → Nat → Bool) : List (List Bool) := (List.range n).map (grow n f)
section
variable {n i j : Nat} {f g : Nat → Nat → Bool}
def idM (s : Bool) : Nat → Nat → Bool := fun i j => s && decide (i = j)
def oeM (A B : Nat → Nat → Bool) : Nat → Nat → Bool := fun i j => A i j || B i j
def mulM (n : Nat) (A B : Nat → Nat → Bool) : Nat → Nat → Bool := fun i j => (List.range n).any fun k => A i k && B k j
def Tri (A : Nat → Nat → Bool) : Prop := ∀ i j, j < i → A i j = false
theorem Tri.id (s : Bool) : Tri (idM s) := fun i j h => by simp [idM]; intro _; omega
theorem Tri.mul {A B : Nat → Nat → Bool} (a : Tri A) (b : Tri B) : Tri (mulM n A B) := fun i j h => by
 unfold mulM
 rw [List.any_eq_false]
 intro k _
 by_cases hk : k < i
 ·rw [a i k hk]; simp
 rw [b k j (by omega)]; simp
end
section
variable {n i j k : Nat} {A B : Nat → Nat → Bool}
end
section
variable {n k : Nat} {A : Nat → Nat → Bool} {low : Int}
def powM (n : Nat) (A : Nat → Nat → Bool) : Nat → Nat → Nat → Bool
 | 0 => idM true
 | k + 1 => mulM n (powM n A k) A
def repM (n : Nat) (A : Nat → Nat → Bool) (low : Int) (k : Nat) : Nat → Nat → Bool := fun i j => (List.range k).any fun m => decide (low ≤ (m : Int)) && powM n A m i j
end
theorem Ol.lsE {α : Type} {cs : α → List Value} {e k : Nat} {w : World} {v : Value} {xs : List α} (h : Ol cs e k w v xs) (hn : 0 < xs.length) : ∃ g, bl v = [g] ∧ Ls cs k w g (g + 1) v xs := by
 have hc := fun g off cap => Ow.cells (g := g) (off := off) (cap := cap) h
 rcases h.2 with ⟨rfl, h0⟩ | ⟨g, off, cap, cur, rfl, hg, h1, h2, h3, _⟩
 ·omega
 exact ⟨g, by simp [bl, Value.ownBlock], h.1, _, cap, rfl, h1, h2, fun _ => ⟨_, rfl, ⟨Nat.le_refl _, Nat.lt_succ_self _⟩, fun j u hu => by rw [add_lit]; exact hc g off cap rfl j u hu⟩⟩
theorem Od.eq {α : Type} {cs : α → List Value} {e k : Nat} {w : World} {lo hi : Nat} {vs : List Sv} {xs ys : List (List α)} (h : Od cs e k w lo hi vs xs) (he : xs = ys) : Od cs e k w lo hi vs ys := he ▸ h
end Go.KLib

namespace Go.KLib
section
variable {n i j k m : Nat} {A : Nat → Nat → Bool} {w : List Int} {c : Int}
def ltM (c : Int) (w : List Int) : Nat → Nat → Bool := fun i j => decide (j = i + 1) && decide (w[i]? = some c)
end
def mtT (w : List Int) : Tr → Nat → Nat → Bool
 | .l0 t => if t.kind = 2 then idM true else if t.kind = 3 then ltM t.letter w else idM false
 | .l1 t x => if t.kind = 6 then repM (w.length + 1) (mtT w x) 0 (w.length + 1) else if t.kind = 7 then repM (w.length + 1) (mtT w x) t.low (t.high + 1).toNat else idM false
 | .l2 t x y => if t.kind = 4 then mulM (w.length + 1) (mtT w x) (mtT w y) else if t.kind = 5 then oeM (mtT w x) (mtT w y) else idM false
section
variable {t ta tb : Tr} {w : List Int}
end
end Go.KLib

namespace Go.KLib
theorem Ol.lsR {α : Type} {cs : α → List Value} {e k lo hi : Nat} {w : World} {v : Value} {xs : List α} (h : Ol cs e k w v xs) (hl : Lo lo v) (hh : ∀ g ∈ bl v, g < hi) : Ls cs k w lo hi v xs := by
 have hc := fun g off cap => Ow.cells (g := g) (off := off) (cap := cap) h
 rcases h.2 with ⟨rfl, h0⟩ | ⟨g, off, cap, cur, rfl, hg, h1, h2, h3, _⟩
 ·exact ⟨h.1, none, 0, by rw [h0], by omega, Nat.zero_le _, fun h => absurd h (by omega)⟩
 have hb : g ∈ bl (.slice (some ⟨g, off, none⟩) xs.length cap) := by simp [bl, Value.ownBlock]
 exact ⟨h.1, _, cap, rfl, h1, h2, fun _ => ⟨_, rfl, ⟨hl g hb, hh g hb⟩, fun j u hu => by rw [add_lit]; exact hc g off cap rfl j u hu⟩⟩
def RT (w : World) (H : Nat) (b : List Nat) (wd : List Int) (vs : List Sv) (st : List Tr) : Prop :=
 vs.length = st.length ∧ ∀ (i : Nat) (v : Sv) (t : Tr), vs[i]? = some v → st.reverse[i]? = some t →
  ∃ us lo hi, Ls Sv.cs 1 w lo hi v.v us ∧ Rd bcs 1 w lo hi us (grd (wd.length + 1) (mtT wd t)) ∧ hi ≤ H ∧ ∀ g ∈ b, g < lo ∨ hi ≤ g
section
variable {w w' : World} {H H' : Nat} {b b' ws : List Nat} {wd : List Int} {vs : List Sv} {st : List Tr}
theorem RT.nil : RT w H b wd [] [] := ⟨rfl, fun _ _ _ h => by simp at h⟩
theorem RT.ch (h : RT w H b wd vs st) (c : Ch ws w w') (hw : ∀ i ∈ ws, H ≤ i ∨ i ∈ b) : RT w' H b wd vs st := ⟨h.1, fun i v t hv ht => by
 obtain ⟨us, lo, hi, h1, h2, h3, h4⟩ := h.2 i v t hv ht
 have hd : ∀ i ∈ ws, i < lo ∨ hi ≤ i := fun i hi' => by
  rcases hw i hi' with q | q
  ·right; omega
  exact h4 i q
 exact ⟨us, lo, hi, h1.ch c hd, h2.ch c hd, h3, h4⟩⟩
theorem RT.ch0 (h : RT w H b wd vs st) (c : Ch [] w w') : RT w' H b wd vs st := h.ch c (by simp)
theorem RT.get (h : RT w H b wd vs st) {i : Nat} {y : Sv} (hy : vs[i]? = some y) : ∃ t us lo hi, st.reverse[i]? = some t ∧ Ls Sv.cs 1 w lo hi y.v us ∧ Rd bcs 1 w lo hi us (grd (wd.length + 1) (mtT wd t)) ∧ hi ≤ H := by
 have hi : i < st.reverse.length := by
  have := (List.getElem?_eq_some_iff.1 hy).1
  rw [List.length_reverse]; have := h.1; omega
 obtain ⟨us, lo, hi', h1, h2, h3, _⟩ := h.2 i y _ hy (List.getElem?_eq_getElem hi)
 exact ⟨_, us, lo, hi', List.getElem?_eq_getElem hi, h1, h2, h3⟩
theorem RT.take (h : RT w H b wd vs st) {k : Nat} (hk : k ≤ st.length) : RT w H b wd (vs.take (vs.length - k)) (st.drop k) := by
 refine ⟨by rw [List.length_take, List.length_drop, h.1]; omega, fun i v t hv ht => ?_⟩
 have h9 := h.1
 rw [List.getElem?_take] at hv
 split at hv
 ·rename_i hi
  refine h.2 i v t hv ?_
  have e : st.reverse = (st.drop k).reverse ++ (st.take k).reverse := by rw [← List.reverse_append, List.take_append_drop]
  rw [e, List.getElem?_append_left (by rw [List.length_reverse, List.length_drop]; omega)]
  exact ht
 cases hv
theorem RT.add (h : RT w H b wd vs st) {v : Sv} {t : Tr} {us : List Sv} {lo hi : Nat} (h1 : Ls Sv.cs 1 w lo hi v.v us) (h2 : Rd bcs 1 w lo hi us (grd (wd.length + 1) (mtT wd t))) (h3 : hi ≤ H') (hH : H ≤ H')
   (hb : ∀ g ∈ b', g < lo ∨ hi ≤ g) (ho : ∀ g ∈ b', g ∈ b ∨ H ≤ g) : RT w H' b' wd (vs ++ [v]) (t :: st) := by
 refine ⟨by simp [h.1], fun i x u hx hu => ?_⟩
 have h9 := h.1
 rw [List.reverse_cons] at hu
 by_cases hi' : i < vs.length
 ·rw [List.getElem?_append_left hi'] at hx
  rw [List.getElem?_append_left (by rw [List.length_reverse]; omega)] at hu
  obtain ⟨us, l, r, a1, a2, a3, a4⟩ := h.2 i x u hx hu
  refine ⟨us, l, r, a1, a2, by omega, fun g hg => ?_⟩
  rcases ho g hg with q | q
  ·exact a4 g q
  right; omega
 have e : i = vs.length := by
  have := (List.getElem?_eq_some_iff.1 hx).1
  simp at this; omega
 subst e
 rw [List.getElem?_append_right (Nat.le_refl _), Nat.sub_self] at hx
 rw [List.getElem?_append_right (by rw [List.length_reverse]; omega), List.length_reverse, h9, Nat.sub_self] at hu
 simp at hx hu; subst hx hu
 exact ⟨us, lo, hi, h1, h2, h3, hb⟩
theorem RT.eq {vs' : List Sv} (h : RT w H b wd vs st) (e : vs = vs') : RT w H b wd vs' st := e ▸ h
end
section
variable {st s2 : List Tr} {y : Token} {l : List Token} {i : Nat} {t : Tr}
end
section
variable {w : List Int} {y : Token} {a b : Tr}
end
section
variable {e : List Token} {w : List Int} {t : Tr}
end
end Go.KLib

namespace Go.KLib
theorem Od.skip {α : Type} {cs : α → List Value} {e k : Nat} {w : World} {lo hi : Nat} {vs us : List Sv} {v : Sv} {xs ys : List (List α)} {x : List α} (h : Od cs e k w lo hi (vs ++ v :: us) (xs ++ x :: ys)) (hl : vs.length = xs.length) : Od cs e k w lo hi (vs ++ us) (xs ++ ys) := by
 have g1 : ∀ {β : Type} (a b : List β) (c : β) (i : Nat) (u : β), (a ++ b)[i]? = some u → (a ++ c :: b)[if i < a.length then i else i + 1]? = some u := by
  intro β a b c i u hu
  by_cases hi : i < a.length
  ·rw [if_pos hi, List.getElem?_append_left hi]; rwa [List.getElem?_append_left hi] at hu
  rw [if_neg hi, List.getElem?_append_right (by omega)]
  rw [List.getElem?_append_right (by omega)] at hu
  rw [show i + 1 - a.length = (i - a.length) + 1 by omega, List.getElem?_cons_succ]; exact hu
 refine ⟨by have := h.1; simp at this ⊢; omega, fun i v' x' a b => ?_, fun i j u u' a b hij => ?_⟩
 ·have a' := g1 _ _ v _ _ a
  have b' := g1 _ _ x _ _ b
  rw [← hl] at b'
  exact h.2.1 _ _ _ a' b'
 have a' := g1 _ _ v _ _ a
 have b' := g1 _ _ v _ _ b
 exact h.2.2 _ _ _ _ a' b' (by split <;> split <;> omega)
theorem Od.app {α : Type} {cs : α → List Value} {e k : Nat} {w : World} {lo hi lo2 hi2 : Nat} {vs us : List Sv} {xs ys : List (List α)} (h : Od cs e k w lo hi vs xs) (h2 : Od cs e k w lo2 hi2 us ys) (hh : hi ≤ lo2) (hl : lo ≤ lo2) (hu : hi ≤ hi2) : Od cs e k w lo hi2 (vs ++ us) (xs ++ ys) := by
 have h9 := h.1
 have k9 := h2.1
 refine ⟨by simp [h9, k9], fun i v x a b => ?_, fun i j u v a b hij => ?_⟩
 ·by_cases hi' : i < vs.length
  ·rw [List.getElem?_append_left hi'] at a
   rw [List.getElem?_append_left (by omega)] at b
   obtain ⟨o, r⟩ := h.2.1 i v x a b
   exact ⟨o, fun g hg => by have := r g hg; omega⟩
  rw [List.getElem?_append_right (by omega)] at a
  rw [List.getElem?_append_right (by omega)] at b
  rw [h9] at a
  obtain ⟨o, r⟩ := h2.2.1 _ v x a b
  exact ⟨o, fun g hg => by have := r g hg; omega⟩
 by_cases hi' : i < vs.length
 ·rw [List.getElem?_append_left hi'] at a
  by_cases hj : j < vs.length
  ·rw [List.getElem?_append_left hj] at b
   exact h.2.2 i j u v a b hij
  rw [List.getElem?_append_right (by omega)] at b
  intro g hg hm
  have r1 := h.rng (List.mem_of_getElem? a) hg
  have r2 := h2.rng (List.mem_of_getElem? b) hm
  omega
 rw [List.getElem?_append_right (by omega)] at a
 rw [List.getElem?_append_right (by omega)] at b
 exact h2.2.2 _ _ u v a b (by omega)
section
variable {L : List Int} {t : Tr} {W : List (List Int)} {P : List Int → Bool} {y : List Int} {i j k m : Nat}
end
end Go.KLib

namespace Go.KLib
def ucs (n : Int) : List Value := [.int .u8 n]
theorem Zgx (n : Int) : (ucs n).length = 1 := rfl
section
variable {P : Program} {w : World} {l : KL} {dst : Option Tmp} {ty : TypeId} {pos : String} {aft : Array Go.Edge} {gd : Option (Nat × Bool)} {x y z : Operand} {xt yt : TypeId} {a b : Int} {k : IntKind} {s t : List UInt8}
theorem Zjc (hx : ev l x = some (.int .i64 a)) (hy : ev l y = some (.int .i64 b)) : Qe P l ⟨dst, .binOp .mul xt x y yt, ty, pos, aft, gd⟩ w (.int .i64 (w64 (a * b))) w := Zkk hx hy
end
end Go.KLib

namespace Go.KLib
open Go.Sort Go.RowKit Go.Shelf Go.Proofs
section
variable {B : Nat → Prop} {S : Int} {N : List (List Int)} {n j s k f : Nat} {l : List Bool} {r : List Int} {y : Int}
end
section
variable {S : Int} {A : List Bool} {N : List (List Int)} {us : List Int} {i : Nat} {y : Int}
theorem Zmm {β : Type} {p : β → Bool} {l : List β} (h : ixP p l < 0) : ∀ x ∈ l, p x = false := fun x hx => by
 unfold ixP at h
 split at h
 ·omega
 rename_i hn
 cases hp : p x with
 | false => rfl
 | true => exact absurd (List.any_eq_true.2 ⟨x, hx, hp⟩) hn
theorem Zmr {β : Type} {p : β → Bool} {l : List β} (h : ¬ ixP p l < 0) : ∃ (k : Nat) (x : β), ixP p l = (k : Int) ∧ l[k]? = some x ∧ p x = true ∧ k < l.length := by
 unfold ixP at h ⊢
 split at h
 ·rename_i hy
  rw [if_pos hy]
  have hk : l.findIdx p < l.length := List.findIdx_lt_length.2 (List.any_eq_true.1 hy)
  exact ⟨l.findIdx p, l[l.findIdx p], rfl, List.getElem?_eq_getElem hk, List.findIdx_getElem, hk⟩
 omega
end
end Go.KLib

namespace Go.KLib
def Cu (w : World) (b : Nat) : Prop := ∃ (v : Value) (xs : List Int) (t : TypeId) (i h : Int), Blk w b t [v, .int .i64 i, .int .i64 h] ∧ Ls ucs 1 w 0 b v xs ∧ 0 ≤ i ∧ i ≤ xs.length
theorem Cu.lt {w : World} {b : Nat} (h : Cu w b) : b < w.heap.size := by obtain ⟨_, _, _, _, _, h, _⟩ := h; exact h.lt
theorem Cu.ch {w w' : World} {b : Nat} {ws : List Nat} (h : Cu w b) (c : Ch ws w w') (hw : ∀ i ∈ ws, b < i) : Cu w' b := by
 obtain ⟨v, xs, t, i, k, h1, h2, h3⟩ := h
 exact ⟨v, xs, t, i, k, h1.ch c (fun hm => by have := hw _ hm; omega), Sl.ch h2 c (fun j hj => .inr (by have := hw _ hj; omega)), h3⟩
theorem Cu.ch0 {w w' : World} {b : Nat} (h : Cu w b) (c : Ch [] w w') : Cu w' b := h.ch c (fun _ hm => by cases hm)
theorem Zlm (x : Int) (m : Nat) (hm : m < 9223372036854775808) : 0 ≤ iand x m ∧ iand x m ≤ m := by
 unfold iand
 have h : (BitVec.ofInt IntKind.i64.bits x &&& BitVec.ofInt IntKind.i64.bits (m : Int)).toNat ≤ m := by
  rw [BitVec.toNat_and]
  refine Nat.le_trans Nat.and_le_right ?_
  rw [BitVec.toNat_ofInt]
  show ((m : Int) % (2 ^ 64 : Nat)).toNat ≤ m
  have : (m : Int) % ((2 ^ 64 : Nat) : Int) = m := Int.emod_eq_of_lt (by omega) (by omega)
  rw [this]; simp
 rw [IntWalk.i64_in _ (by omega)]
 omega
theorem Zjf (x : Int) : 0 ≤ iand x 255 ∧ iand x 255 ≤ 255 := Zlm x 255 (by decide)
theorem Zfv {x n : Int} (h : 0 ≤ x) (hn : 0 < n) : 0 ≤ x.tmod n ∧ x.tmod n < n := ⟨Int.tmod_nonneg _ h, Int.tmod_lt_of_pos _ hn⟩
end Go.KLib

namespace Go.KLib
section
variable {P : Program} {w : World} {l : KL} {dst : Option Tmp} {ty : TypeId} {pos : String} {aft : Array Go.Edge} {gd : Option (Nat × Bool)} {x y : Operand} {xt yt : TypeId} {a b : Int} {k : IntKind}
end
end Go.KLib

namespace Go.KLib
open Go.ChangeShapes Go.WideShapes Go.ChangeAt Go.RowKit Go.Deep Go.Joins
section
variable {H : Type} {enc : TypeId × Value → H} {P : Program} {w : World} {base : Nat} {spare : Nat → Bool} {held : Bool}
theorem Zmz {t : TypeId} {fuel : Nat} {cs : List Value} {x : DataW H × List MemPlace} (ht : P.underlying t = some (.int .u8)) (h : DataW.trod enc P w base spare held fuel t cs = some x) : ∃ n : Int, cs = ucs n := by
 obtain ⟨n, hn, _⟩ := DataW.trod_int ht h
 exact ⟨n, hn⟩
end
end Go.KLib

namespace Go.KLib
def Pw (L : List Int → Prop) : Nat → List Int → Prop
 | 0, w => w = []
 | k + 1, w => ∃ u v, w = u ++ v ∧ Pw L k u ∧ L v
def Lg : Tr → List Int → Prop
 | .l0 t => fun w => if t.kind = 2 then w = [] else if t.kind = 3 then w = [t.letter] else False
 | .l1 t x => fun w => if t.kind = 6 then ∃ k, Pw (Lg x) k w else if t.kind = 7 then ∃ k : Nat, t.low ≤ (k : Int) ∧ (k : Int) ≤ t.high ∧ Pw (Lg x) k w else False
 | .l2 t x y => fun w => if t.kind = 4 then ∃ u v, w = u ++ v ∧ Lg x u ∧ Lg y v else if t.kind = 5 then Lg x w ∨ Lg y w else False
section
variable {w : List Int} {i j k n : Nat} {A B : Nat → Nat → Bool} {L M : List Int → Prop}
end
section
variable {L M : List Int → Prop} {w u v : List Int} {k m : Nat}
theorem Pw.app (h : Pw L k u) : ∀ {m : Nat} {v : List Int}, Pw L m v → Pw L (k + m) (u ++ v)
 | 0, v, h2 => by rw [show v = [] from h2, List.append_nil]; exact h
 | m + 1, v, ⟨a, b, e, h2, h3⟩ => ⟨u ++ a, b, by rw [e, List.append_assoc], h.app h2, h3⟩
theorem Pw.one : Pw L 1 w ↔ L w := ⟨fun ⟨a, b, e, h, k⟩ => by rw [e, show a = [] from h]; exact k, fun h => ⟨[], w, rfl, rfl, h⟩⟩
theorem Pw.cons (h : L u) (k1 : Pw L k v) : Pw L (k + 1) (u ++ v) := by
 have := (Pw.one.2 h).app k1
 rwa [Nat.add_comm 1 k] at this
theorem Pw.nil (h : L []) : ∀ k, Pw L k []
 | 0 => rfl
 | k + 1 => ⟨[], [], rfl, Pw.nil h k, h⟩
theorem Pw.uncons : ∀ {k : Nat} {w : List Int}, Pw L (k + 1) w → ∃ u v, w = u ++ v ∧ L u ∧ Pw L k v
 | 0, w, h => ⟨w, [], by simp, Pw.one.1 h, rfl⟩
 | k + 1, w, ⟨a, b, e, h, h2⟩ => by
  obtain ⟨u, v, e2, h3, h4⟩ := Pw.uncons h
  exact ⟨u, v ++ b, by rw [e, e2, List.append_assoc], h3, v, b, rfl, h4, h2⟩
theorem Pw.mono (h : ∀ w, L w → M w) : ∀ {k : Nat} {w : List Int}, Pw L k w → Pw M k w
 | 0, _, h1 => h1
 | _ + 1, _, ⟨a, b, e, h1, h2⟩ => ⟨a, b, e, h1.mono h, h b h2⟩
theorem Pw.first {x : Int} : ∀ {k : Nat} {w : List Int}, Pw L k (x :: w) → ∃ u v m, w = u ++ v ∧ L (x :: u) ∧ Pw L m v ∧ m + 1 ≤ k ∧ (m + 1 = k ∨ L [])
 | 0, w, h => by cases h
 | k + 1, w, h => by
  obtain ⟨u, v, e, h1, h2⟩ := Pw.uncons h
  cases u with
  | nil =>
   simp only [List.nil_append] at e; subst e
   obtain ⟨u, v, m, e, a, b, c, _⟩ := Pw.first h2
   exact ⟨u, v, m, e, a, b, by omega, .inr h1⟩
  | cons y u =>
   simp only [List.cons_append, List.cons.injEq] at e
   obtain ⟨rfl, e⟩ := e
   exact ⟨u, v, k, e, h1, h2, Nat.le_refl _, .inl rfl⟩
end
def Ex (e : List Token) (L : List Int → Prop) : Prop := ∃ t, Okd t ∧ e = t.flat ∧ ∀ w, Lg t w ↔ L w
section
variable {a b : List Token} {L M N : List Int → Prop}
theorem Ex.of {t : Tr} (h : Okd t) : Ex t.flat (Lg t) := ⟨t, h, rfl, fun _ => Iff.rfl⟩
theorem Ex.single {t : Token} (h : Ex a L) (hl : a = [t]) : arT t = 0 ∧ ∀ w, L w ↔ Lg (.l0 t) w := by
 obtain ⟨x, h1, h2, h3⟩ := h
 rw [hl] at h2
 cases x with
 | l0 y =>
  simp only [Tr.flat, List.cons.injEq, and_true] at h2
  subst h2
  exact ⟨h1, fun w => (h3 w).symm⟩
 | l1 y q =>
  have := congrArg List.length h2
  rw [Tr.flat_len] at this
  have := q.sz_pos
  simp [Tr.sz] at *; omega
 | l2 y q r =>
  have := congrArg List.length h2
  rw [Tr.flat_len] at this
  have := q.sz_pos
  have := r.sz_pos
  simp [Tr.sz] at *; omega
theorem Znh {e : List Token} {k : Int} (h : isK e k = true) : ∃ y, e = [y] ∧ y.kind = k := by
 unfold isK at h
 simp only [decide_eq_true_eq] at h
 obtain ⟨h1, h2⟩ := h
 match e, h1 with
 | [y], _ => exact ⟨y, rfl, h2⟩
theorem Ex.k1 (h : Ex a L) (hk : isK a 1 = true) : ∀ w, ¬ L w := fun w hw => by
 obtain ⟨y, rfl, hy⟩ := Znh hk
 have := (h.single rfl).2 w
 rw [this] at hw
 simp [Lg, hy] at hw
end
section
variable {e a b : List Token} {L M : List Int → Prop} {w : List Int}
end
end Go.KLib

namespace Go.KLib
section
variable {e : List Token} {n : Int} {w u : List Int} {i : Nat}
end
end Go.KLib

namespace Go.KLib
def Rn (E : Nat → Nat → Prop) (La : Nat → Int → Prop) : Nat → List Int → Nat → Prop
 | p, [], q => p = q
 | p, c :: w, q => ∃ r, E p r ∧ La r c ∧ Rn E La r w q
section
variable {E E' Ex Ey : Nat → Nat → Prop} {La : Nat → Int → Prop} {f l fx lx fy ly sx : Nat → Prop} {n nx ny : Prop} {p q r : Nat} {u v w : List Int}
theorem Rn.app : ∀ {u : List Int} {p : Nat}, Rn E La p u q → Rn E La q v r → Rn E La p (u ++ v) r
 | [], p, h, k => by rw [show p = q from h]; exact k
 | c :: u, p, ⟨s, a, b, h⟩, k => ⟨s, a, b, h.app k⟩
theorem Rn.mono (h : ∀ p q, E p q → E' p q) : ∀ {w : List Int} {p : Nat}, Rn E La p w q → Rn E' La p w q
 | [], _, e => e
 | _ :: _, _, ⟨s, a, b, k⟩ => ⟨s, h _ _ a, b, k.mono h⟩
end
end Go.KLib

namespace Go.KLib
def bt (m : Int) (p : Nat) : Prop := m.toNat.testBit p = true
instance {m : Int} {p : Nat} : Decidable (bt m p) := inferInstanceAs (Decidable (_ = true))
def okm (m : Int) (n : Nat) : Prop := 0 ≤ m ∧ m.toNat < 2 ^ n
section
variable {a b m l f : Int} {n k p q s : Nat} {F L : List Int}
theorem okm.up (h : okm m n) (hn : n ≤ k) : okm m k := ⟨h.1, Nat.lt_of_lt_of_le h.2 (Nat.pow_le_pow_right (by decide) hn)⟩
end
end Go.KLib

namespace Go.KLib
end Go.KLib

namespace Go.KLib
section
variable {a zs : List (List Int)} {i j : Nat} {x y : List Int} {k kk : Int}
end
section
variable {a : List (List Int)} {i : Nat} {k kk : Int}
end
end Go.KLib

namespace Go.KLib
section
variable {a b m set nx c last f : Int} {n k p q s : Nat} {F L : List Int} {nl : Bool}
variable {l : Int} {w : List Int}
theorem Rn.snoc {E : Nat → Nat → Prop} {La : Nat → Int → Prop} : ∀ {v : List Int} {p : Nat}, Rn E La p (v ++ [c]) q ↔ ∃ j, Rn E La p v j ∧ E j q ∧ La q c
 | [], p => ⟨fun ⟨r, h1, h2, h3⟩ => by rw [show r = q from h3] at h1 h2; exact ⟨p, rfl, h1, h2⟩, fun ⟨j, h1, h2, h3⟩ => by rw [show p = j from h1]; exact ⟨q, h2, h3, rfl⟩⟩
 | d :: v, p => by
  constructor
  ·rintro ⟨r, h1, h2, h3⟩
   obtain ⟨j, h4, h5⟩ := Rn.snoc.1 h3
   exact ⟨j, ⟨r, h1, h2, h4⟩, h5⟩
  rintro ⟨j, ⟨r, h1, h2, h4⟩, h5⟩
  exact ⟨r, h1, h2, Rn.snoc.2 ⟨j, h4, h5⟩⟩
end
end Go.KLib

namespace Go.KLib
section
variable {w : List Int} {x t : Tr} {e : List Token}
theorem Pw.congr {L M : List Int → Prop} (h : ∀ w, L w ↔ M w) {k : Nat} : Pw L k w ↔ Pw M k w := ⟨Pw.mono fun w => (h w).1, Pw.mono fun w => (h w).2⟩
end
end Go.KLib

namespace Go.KLib
section
variable {S : Int} {A : List Bool} {N : List (List Int)} {C : List Int} {s t n : Nat}
theorem Zcw {T : Type} (nx : T → Nat → T) (t0 : T) (c : Int) (v : List Int) : runT nx t0 (c :: v) = runT nx (nx t0 c.toNat) v := rfl
theorem Zfx {c : Int} {v : List Int} : okW (c :: v) ↔ (0 ≤ c ∧ c ≤ 8) ∧ okW v :=
 ⟨fun h => ⟨h c (List.mem_cons_self ..), fun x hx => h x (List.mem_cons_of_mem _ hx)⟩, fun h x hx => by
  rcases List.mem_cons.1 hx with e | e
  ·rw [e]; exact h.1
  exact h.2 x e⟩
theorem Zkc {x : Int} (h : x < 0) (k : Nat) : nxI N x k = -1 := by unfold nxI Zkz; rw [if_pos (.inl h)]
theorem Zfq : ∀ (v : List Int) (x : Int), x < 0 → accA A (runT (nxI N) x v) = false
 | [], x, h => by show accA A x = false; exact (Zmw (by omega)).symm
 | c :: v, x, h => by rw [Zcw, Zkc h]; exact Zfq v (-1) (by omega)
theorem Zir {x : Int} (hx : 0 ≤ x) {k : Nat} (hk : k ≤ 8) : nxI N x k = (N.getD x.toNat []).getD k 0 := by
 unfold nxI Zkz; rw [if_neg (by omega)]; rfl
theorem Zis (h : Zeg S A N) (hs : s < A.length) {k : Nat} (hk : k ≤ 8) : ∃ r, N[s]? = some r ∧ r[k]? = some (nxI N s k) := by
 have hN := h.2.2.1
 have hr : N[s]? = some (N[s]'(by omega)) := List.getElem?_eq_getElem _
 have hl := (Zes h.2 hr).1
 refine ⟨_, hr, ?_⟩
 rw [Zir (Int.natCast_nonneg s) hk, Int.toNat_natCast, Zan hr, List.getD_eq_getElem?_getD, List.getElem?_eq_getElem (by omega)]
 rfl
theorem Zin (h : Zeg S A N) (hs : s < A.length) {k : Nat} (hk : k ≤ 8) : -1 ≤ nxI N s k ∧ nxI N s k ≤ (A.length : Int) - 1 := by
 obtain ⟨r, h1, h2⟩ := Zis h hs hk
 exact Zlh h.2 h1 h2
theorem Zhe {s : Nat} : accA A (s : Int) = A.getD s false := by unfold accA; simp
theorem Zlb (h : Zeg S A N) : ∀ {s : Nat}, Cl (Zjv A) (Zik N) s → ∃ v, okW v ∧ accA A (runT (nxI N) (s : Int) v) = true := fun hc => by
 induction hc with
 | @base s hb => exact ⟨[], Zit, by show accA A (s : Int) = true; rw [Zhe]; exact Zan hb⟩
 | @step s t he hk ih =>
  obtain ⟨v, hv, ha⟩ := ih
  obtain ⟨i, r, h1, h2⟩ := he
  have hl := (Zes h.2 h1).1
  have hi := (List.getElem?_eq_some_iff.1 h2).1
  have hN := h.2.2.1
  have hs := (List.getElem?_eq_some_iff.1 h1).1
  obtain ⟨r', h3, h4⟩ := Zis h (s := s) (by omega) (k := i) (by omega)
  rw [h1] at h3; injection h3 with h3; subst h3
  rw [h2] at h4; injection h4 with h4
  exact ⟨(i : Int) :: v, Zfx.2 ⟨by omega, hv⟩, by rw [Zcw, Int.toNat_natCast, ← h4]; exact ha⟩
theorem Zjh (h : Zeg S A N) : ∀ (v : List Int) (s : Nat), s < A.length → okW v → accA A (runT (nxI N) (s : Int) v) = true → Cl (Zjv A) (Zik N) s
 | [], s, hs, _, ha => by
  have e : accA A (s : Int) = true := ha
  rw [Zhe] at e
  refine .base ?_
  show A[s]? = some true
  rw [List.getD_eq_getElem?_getD, List.getElem?_eq_getElem hs] at e
  rw [List.getElem?_eq_getElem hs]; exact congrArg some e
 | c :: v, s, hs, hv, ha => by
  rw [Zfx] at hv
  rw [Zcw] at ha
  have hk : c.toNat ≤ 8 := by omega
  obtain ⟨r, h1, h2⟩ := Zis h hs hk
  have hr := Zin h hs hk
  rcases Int.lt_or_le (nxI N s c.toNat) 0 with hn | hn
  ·rw [Zfq v _ hn] at ha; cases ha
  obtain ⟨t, e⟩ := Int.eq_ofNat_of_zero_le hn
  rw [e] at ha h2
  exact .step ⟨_, r, h1, h2⟩ (Zjh h v t (by omega) hv.2 ha)
theorem Zfw (h : Zeg S A N) (hs : s < A.length) : (Zax A N).getD s false = true ↔ ∃ v, okW v ∧ accA A (runT (nxI N) (s : Int) v) = true := by
 have e : (Zax A N).getD s false = tt (Cl (Zjv A) (Zik N) s) := by unfold Zax; exact Zan (Zlv hs)
 rw [e, Zeh]
 exact ⟨Zlb h, fun ⟨v, h1, h2⟩ => Zjh h v s hs h1 h2⟩
theorem Zgd (C : List Int) (N : List (List Int)) : ∀ m s, s < m → (C.getD s 0 < 0 → (rfn C N m).2[s]? = some (-1)) ∧
   (¬ C.getD s 0 < 0 → keyC C (N.getD s []) (C.getD s 0) ∈ (rfn C N m).1 ∧ (rfn C N m).2[s]? = some ((rfn C N m).1.idxOf (keyC C (N.getD s []) (C.getD s 0)) : Int))
 | 0, _, h => absurd h (by omega)
 | m + 1, s, h => by
  have hl := (Zja C N m).1
  by_cases e : s = m
  ·subst e
   rcases Zez C N s with ⟨h1, e⟩ | ⟨h1, hk, e⟩ | ⟨h1, hk, e⟩ <;> rw [e]
   ·refine ⟨fun _ => ?_, fun q => absurd h1 q⟩
    simp [List.getElem?_append, hl]
   ·refine ⟨fun q => absurd q h1, fun _ => ⟨hk, ?_⟩⟩
    simp [List.getElem?_append, hl]
   refine ⟨fun q => absurd q h1, fun _ => ⟨by simp, ?_⟩⟩
   rw [List.idxOf_append, if_neg hk, List.getElem?_append_right (by omega), hl]
   simp
  have ih := Zgd C N m s (by omega)
  have g : ∀ x, ((rfn C N m).2 ++ [x])[s]? = (rfn C N m).2[s]? := fun x => List.getElem?_append_left (by omega)
  rcases Zez C N m with ⟨h1, e⟩ | ⟨h1, hk, e⟩ | ⟨h1, hk, e⟩ <;> rw [e] <;> simp only [g]
  ·exact ih
  ·exact ih
  refine ⟨ih.1, fun q => ?_⟩
  obtain ⟨a, b⟩ := ih.2 q
  exact ⟨List.mem_append_left _ a, by rw [b, List.idxOf_append, if_pos a]⟩
theorem Zgz (hs : s < n) : (rfn C N n).2.getD s 0 < 0 ↔ C.getD s 0 < 0 := by
 have h := Zgd C N n s hs
 by_cases e : C.getD s 0 < 0
 ·rw [Zan (h.1 e)]; exact ⟨fun _ => e, fun _ => by omega⟩
 rw [Zan (h.2 e).2]; exact ⟨fun q => by omega, fun q => absurd q e⟩
theorem Ziw (hs : s < n) (ht : t < n) : (rfn C N n).2.getD s 0 = (rfn C N n).2.getD t 0 ↔ (C.getD s 0 < 0 ∧ C.getD t 0 < 0) ∨ (¬ C.getD s 0 < 0 ∧ ¬ C.getD t 0 < 0 ∧ keyC C (N.getD s []) (C.getD s 0) = keyC C (N.getD t []) (C.getD t 0)) := by
 have h := Zgd C N n s hs
 have g := Zgd C N n t ht
 by_cases e : C.getD s 0 < 0 <;> by_cases f : C.getD t 0 < 0
 ·rw [Zan (h.1 e), Zan (g.1 f)]; exact ⟨fun _ => .inl ⟨e, f⟩, fun _ => rfl⟩
 ·rw [Zan (h.1 e), Zan (g.2 f).2]
  exact ⟨fun q => by omega, fun q => q.elim (fun q => absurd q.2 f) fun q => absurd e q.1⟩
 ·rw [Zan (h.2 e).2, Zan (g.1 f)]
  exact ⟨fun q => by omega, fun q => q.elim (fun q => absurd q.1 e) fun q => absurd f q.2.1⟩
 rw [Zan (h.2 e).2, Zan (g.2 f).2]
 obtain ⟨a1, _⟩ := h.2 e
 obtain ⟨a2, _⟩ := g.2 f
 constructor
 ·intro q
  refine .inr ⟨e, f, ?_⟩
  have i1 := List.idxOf_lt_length_of_mem a1
  have i2 := List.idxOf_lt_length_of_mem a2
  have q' : (rfn C N n).1.idxOf (keyC C (N.getD s []) (C.getD s 0)) = (rfn C N n).1.idxOf (keyC C (N.getD t []) (C.getD t 0)) := by omega
  rw [← List.getElem_idxOf i1, ← List.getElem_idxOf i2]
  simp only [q']
 rintro (q | q)
 ·exact absurd q.1 e
 rw [q.2.2]
theorem Zhs (h0 : C.length = n) (hs : s < n) : ∀ i, (clsD N C n i).getD s 0 < 0 ↔ C.getD s 0 < 0
 | 0 => Iff.rfl
 | i + 1 => (Zgz hs).trans (Zhs h0 hs i)
theorem Zdy (hs : s < A.length) : (clsI A (Zax A N) A.length).getD s 0 = if (Zax A N).getD s false = false then -1 else if A.getD s false then 1 else 0 := by
 unfold clsI
 exact Zan (by rw [List.getElem?_map, List.getElem?_range hs]; rfl)
theorem Zdg (hs : s < A.length) : (clsI A (Zax A N) A.length).getD s 0 < 0 ↔ (Zax A N).getD s false = false := by
 rw [Zdy hs]
 by_cases h : (Zax A N).getD s false = false
 ·rw [if_pos h]; exact ⟨fun _ => h, fun _ => by omega⟩
 rw [if_neg h]; exact ⟨fun q => by split at q <;> omega, fun q => absurd q h⟩
theorem Zlp (h : Zeg S A N) (hs : s < A.length) (hd : (Zax A N).getD s false = false) {v : List Int} (hv : okW v) : accA A (runT (nxI N) (s : Int) v) = false := by
 cases e : accA A (runT (nxI N) (s : Int) v) with
 | false => rfl
 | true => rw [(Zfw h hs).2 ⟨v, hv, e⟩] at hd; cases hd
theorem Zkt (h : Zeg S A N) (hs : s < A.length) : (N.getD s []).length = 9 := by
 have hN := h.2.2.1
 have hr : N[s]? = some (N[s]'(by omega)) := List.getElem?_eq_getElem _
 rw [Zan hr]; exact (Zes h.2 hr).1
theorem apart (h : Zeg S A N) : ∀ i s t, s < A.length → t < A.length → (clsD N (clsI A (Zax A N) A.length) A.length i).getD s 0 ≠ (clsD N (clsI A (Zax A N) A.length) A.length i).getD t 0 → ∃ v, okW v ∧ accA A (runT (nxI N) (s : Int) v) ≠ accA A (runT (nxI N) (t : Int) v)
 | i, s, t, hs, ht, hne => by
  have h0 := Zjw A (Zax A N) A.length
  have one : ∀ s t : Nat, s < A.length → t < A.length → (Zax A N).getD s false = true → (Zax A N).getD t false = false → ∃ v, okW v ∧ accA A (runT (nxI N) (s : Int) v) ≠ accA A (runT (nxI N) (t : Int) v) := fun s t hs ht a b => by
   obtain ⟨v, hv, e⟩ := (Zfw h hs).1 a
   exact ⟨v, hv, by rw [e, Zlp h ht b hv]; decide⟩
  cases a : (Zax A N).getD s false <;> cases b : (Zax A N).getD t false
  ·exfalso
   have e1 := (Zhs (N := N) h0 hs i).2 ((Zdg hs).2 a)
   have e2 := (Zhs (N := N) h0 ht i).2 ((Zdg ht).2 b)
   cases i with
   | zero =>
    have e1' := Zdy (N := N) hs
    have e2' := Zdy (N := N) ht
    rw [if_pos a] at e1'; rw [if_pos b] at e2'
    exact hne (e1'.trans e2'.symm)
   | succ i => exact hne ((Ziw hs ht).2 (.inl ⟨(Zgz hs).1 e1, (Zgz ht).1 e2⟩))
  ·obtain ⟨v, hv, e⟩ := one t s ht hs b a
   exact ⟨v, hv, fun q => e q.symm⟩
  ·exact one s t hs ht a b
  have n1 : ∀ i, ¬ (clsD N (clsI A (Zax A N) A.length) A.length i).getD s 0 < 0 := fun i q => by
   have := (Zdg hs).1 ((Zhs (N := N) h0 hs i).1 q); rw [a] at this; cases this
  have n2 : ∀ i, ¬ (clsD N (clsI A (Zax A N) A.length) A.length i).getD t 0 < 0 := fun i q => by
   have := (Zdg ht).1 ((Zhs (N := N) h0 ht i).1 q); rw [b] at this; cases this
  cases i with
  | zero =>
   refine ⟨[], Zit, fun q => hne ?_⟩
   have q' : accA A (s : Int) = accA A (t : Int) := q
   rw [Zhe, Zhe] at q'
   show (clsI A (Zax A N) A.length).getD s 0 = (clsI A (Zax A N) A.length).getD t 0
   rw [Zdy hs, Zdy ht, a, b, q']
  | succ i =>
   by_cases hc : (clsD N (clsI A (Zax A N) A.length) A.length i).getD s 0 = (clsD N (clsI A (Zax A N) A.length) A.length i).getD t 0
   ·have hk : (N.getD s []).map (keyE (clsD N (clsI A (Zax A N) A.length) A.length i)) ≠ (N.getD t []).map (keyE (clsD N (clsI A (Zax A N) A.length) A.length i)) := fun q =>
     hne ((Ziw hs ht).2 (.inr ⟨n1 i, n2 i, by unfold keyC; rw [hc, q]⟩))
    have l1 := Zkt h hs
    have l2 := Zkt h ht
    have ⟨k, hk9, hq⟩ : ∃ k, k < 9 ∧ keyE (clsD N (clsI A (Zax A N) A.length) A.length i) ((N.getD s []).getD k 0) ≠ keyE (clsD N (clsI A (Zax A N) A.length) A.length i) ((N.getD t []).getD k 0) := by
     apply Classical.byContradiction
     intro hh
     refine hk (List.ext_getElem (by rw [List.length_map, List.length_map, l1, l2]) fun k g1 g2 => ?_)
     have g3 : k < 9 := by rwa [List.length_map, l1] at g1
     rw [List.getElem_map, List.getElem_map]
     apply Classical.byContradiction
     intro hn
     refine hh ⟨k, g3, ?_⟩
     rwa [List.getD_eq_getElem?_getD, List.getElem?_eq_getElem (by omega), Option.getD_some, List.getD_eq_getElem?_getD (l := N.getD t []), List.getElem?_eq_getElem (by omega), Option.getD_some]
    have hx : nxI N s k = (N.getD s []).getD k 0 := by rw [Zir (Int.natCast_nonneg s) (by omega), Int.toNat_natCast]
    have hy : nxI N t k = (N.getD t []).getD k 0 := by rw [Zir (Int.natCast_nonneg t) (by omega), Int.toNat_natCast]
    rw [← hx, ← hy] at hq
    have r1 := Zin h hs (k := k) (by omega)
    have r2 := Zin h ht (k := k) (by omega)
    have fin : (∃ v, okW v ∧ accA A (runT (nxI N) (nxI N s k) v) ≠ accA A (runT (nxI N) (nxI N t k) v)) → ∃ v, okW v ∧ accA A (runT (nxI N) (s : Int) v) ≠ accA A (runT (nxI N) (t : Int) v) := fun ⟨v, hv, e⟩ =>
     ⟨(k : Int) :: v, Zfx.2 ⟨by omega, hv⟩, by rw [Zcw, Zcw, Int.toNat_natCast]; exact e⟩
    apply fin
    have lv : ∀ x : Nat, x < A.length → keyE (clsD N (clsI A (Zax A N) A.length) A.length i) (x : Int) ≠ -1 → ∃ v, okW v ∧ accA A (runT (nxI N) (x : Int) v) = true := fun x hx hk => by
     refine (Zfw h hx).1 ?_
     cases e : (Zax A N).getD x false with
     | true => rfl
     | false =>
      exfalso
      refine hk ?_
      unfold keyE; rw [if_neg (by omega), Int.toNat_natCast]
      cases i with
      | zero => have := Zdy (N := N) hx; rw [if_pos e] at this; exact this
      | succ i => exact Zan ((Zgd _ N A.length x hx).1 ((Zhs (N := N) h0 hx i).2 ((Zdg hx).2 e)))
    have km : ∀ x : Int, x < 0 → keyE (clsD N (clsI A (Zax A N) A.length) A.length i) x = -1 := fun x hx => by unfold keyE; rw [if_pos hx]
    rcases Int.lt_or_le (nxI N s k) 0 with p1 | p1 <;> rcases Int.lt_or_le (nxI N t k) 0 with p2 | p2
    ·exact absurd ((km _ p1).trans (km _ p2).symm) hq
    ·obtain ⟨y, ey⟩ := Int.eq_ofNat_of_zero_le p2
     rw [km _ p1, ey] at hq
     obtain ⟨v, hv, e⟩ := lv y (by omega) (fun q => hq q.symm)
     exact ⟨v, hv, by rw [Zfq v _ p1, ey, e]; decide⟩
    ·obtain ⟨y, ey⟩ := Int.eq_ofNat_of_zero_le p1
     rw [km _ p2, ey] at hq
     obtain ⟨v, hv, e⟩ := lv y (by omega) hq
     exact ⟨v, hv, by rw [Zfq v _ p2, ey, e]; decide⟩
    obtain ⟨x, ex⟩ := Int.eq_ofNat_of_zero_le p1
    obtain ⟨y, ey⟩ := Int.eq_ofNat_of_zero_le p2
    rw [ex, ey] at hq ⊢
    refine apart h i x y (by omega) (by omega) fun q => hq ?_
    unfold keyE; rw [if_neg (by omega), if_neg (by omega), Int.toNat_natCast, Int.toNat_natCast]; exact q
   exact apart h i s t hs ht hc
 termination_by i => i
end
end Go.KLib

namespace Go.KLib
section
variable {α : Type} {cs : α → List Value} {e k lo hi hi' : Nat} {w w' : World} {vs : List Sv} {xs : List (List α)} {ws : List Nat}
theorem Od.put {i : Nat} {v v' : Sv} {x x' : List α} (h : Od cs e k w lo hi vs xs) (hv : vs[i]? = some v) (hx : xs[i]? = some x) (c : Ch ws w w') (hw : ∀ g ∈ ws, g ∈ bl v.v) (ho : Ol cs e k w' v'.v x') (hb : ∀ g ∈ bl v'.v, g ∈ bl v.v ∨ (hi ≤ g ∧ g < hi')) (hh : hi ≤ hi') (hl : lo ≤ hi) : Od cs e k w' lo hi' (vs.set i v') (xs.set i x') := by
 have i1 := (List.getElem?_eq_some_iff.1 hv).1
 have i2 := (List.getElem?_eq_some_iff.1 hx).1
 have old : ∀ g ∈ bl v.v, lo ≤ g ∧ g < hi := (h.2.1 i v x hv hx).2
 refine ⟨by simp [h.1], fun j u y a b => ?_, fun j1 j2 u1 u2 a b hj => ?_⟩
 ·rw [List.getElem?_set] at a b
  by_cases e1 : i = j
  ·subst e1
   rw [if_pos rfl, if_pos i1] at a
   rw [if_pos rfl, if_pos i2] at b
   injection a with a; injection b with b; subst a; subst b
   exact ⟨ho, fun g hg => by
    rcases hb g hg with q | q
    ·have := old g q; omega
    omega⟩
  rw [if_neg e1] at a b
  have t := h.2.1 j u y a b
  refine ⟨t.1.ch c fun g hg hm => ?_, fun g hg => by have := t.2 g hg; omega⟩
  rcases Nat.lt_or_gt_of_ne e1 with h1 | h1
  ·exact h.2.2 i j v u hv a h1 g (hw g hm) hg
  exact h.2.2 j i u v a hv h1 g hg (hw g hm)
 rw [List.getElem?_set] at a b
 have rng : ∀ (j : Nat) (u : Sv), vs[j]? = some u → ∀ g ∈ bl u.v, lo ≤ g ∧ g < hi := fun j u hu => by
  obtain ⟨_, _, _, r⟩ := h.ownget hu; exact r
 by_cases e1 : i = j1 <;> by_cases e2 : i = j2
 ·omega
 ·subst e1
  rw [if_pos rfl, if_pos i1] at a; rw [if_neg e2] at b
  injection a with a; subst a
  intro g hg hm
  rcases hb g hg with q | q
  ·exact h.2.2 i j2 v u2 hv b hj g q hm
  have := rng j2 u2 b g hm; omega
 ·subst e2
  rw [if_pos rfl, if_pos i1] at b; rw [if_neg e1] at a
  injection b with b; subst b
  intro g hg hm
  rcases hb g hm with q | q
  ·exact h.2.2 j1 i u1 v a hv hj g hg q
  have := rng j1 u1 a g hg; omega
 rw [if_neg e1] at a; rw [if_neg e2] at b
 exact h.2.2 j1 j2 u1 u2 a b hj
theorem Sep.put {o : Value} {i : Nat} {v v' : Sv} (h : Sep o vs) (hv : vs[i]? = some v) (hb : ∀ g ∈ bl v'.v, g ∈ bl v.v ∨ (hi ≤ g ∧ g < hi')) (ho : ∀ g ∈ bl o, g < hi) : Sep o (vs.set i v') := fun u hu g hg hm => by
 rcases List.mem_or_eq_of_mem_set hu with q | q
 ·exact h u q g hg hm
 subst q
 rcases hb g hg with q | q
 ·exact h v (Qf hv) g q hm
 have := ho g hm; omega
end
structure GStp where
 ed : Int
 bk : Bool
 deriving DecidableEq
structure PStep where
 edge : Int
 back : Bool
 node : Int
 state : Int
 deriving DecidableEq
structure Arc where
 edge : Int
 back : Bool
 letter : Int
 to_ : Int
 deriving DecidableEq
def GStp.cs (p : GStp) : List Value := [.int .i64 p.ed, .bool p.bk]
def PStep.cs (p : PStep) : List Value := [.int .i64 p.edge, .bool p.back, .int .i64 p.node, .int .i64 p.state]
def Arc.cs (p : Arc) : List Value := [.int .i64 p.edge, .bool p.back, .int .i64 p.letter, .int .i64 p.to_]
theorem GStp.len (p : GStp) : p.cs.length = 2 := rfl
theorem PStep.len (p : PStep) : p.cs.length = 4 := rfl
theorem Arc.len (p : Arc) : p.cs.length = 4 := rfl
theorem GStp.one (x : GStp) : ∀ y ∈ x.cs, y.oneCell' = true := by intro y hy; simp [GStp.cs] at hy; rcases hy with rfl | rfl <;> rfl
theorem PStep.one (x : PStep) : ∀ y ∈ x.cs, y.oneCell' = true := by intro y hy; simp [PStep.cs] at hy; rcases hy with rfl | rfl | rfl | rfl <;> rfl
theorem Arc.one (x : Arc) : ∀ y ∈ x.cs, y.oneCell' = true := by intro y hy; simp [Arc.cs] at hy; rcases hy with rfl | rfl | rfl | rfl <;> rfl
section
variable {S s t x y : Int} {A : List Bool} {N : List (List Int)}
end
end Go.KLib

namespace Go.KLib
section
variable {S aS bS : Int} {A aA bA : List Bool} {N aN bN : List (List Int)}
end
end Go.KLib

namespace Go.KLib
def Zex (k : Int) (n : Nat) : List PStep := (List.range n).map fun (i : Nat) => ⟨k + 4 * i, decide ((k + 4 * i + 1).tmod 3 = 0), k + 4 * i + 2, k + 4 * i + 3⟩
@[simp] theorem mkPStep_len (k : Int) (n : Nat) : (Zex k n).length = n := by simp [Zex]
theorem Zku (a : List PStep) {i : Nat} (hi : i < a.length) {kk k : Int} (h : kk = k + 4 * i) : (Zex k i ++ a.drop i).set i ⟨kk, decide ((kk + 1).tmod 3 = 0), kk + 1 + 1, kk + 1 + 1 + 1⟩ = Zex k (i + 1) ++ a.drop (i + 1) := by
 subst h
 have h2 := Zea a (fun (q : Nat) => (⟨k + 4 * q, decide ((k + 4 * q + 1).tmod 3 = 0), k + 4 * q + 2, k + 4 * q + 3⟩ : PStep)) hi
 unfold Zex
 refine Eq.trans (congrArg _ ?_) h2
 simp only [Int.add_assoc]
 all_goals rfl
section
variable {V : List Int} {E : List GEdge} {node : Int} {k : Nat} {e y : GEdge}
theorem Zil (h : Xn V E) : ∀ (d i : Nat) (x z : GEdge), E[i]? = some x → E[i + d + 1]? = some z → x.id < z.id
 | 0, i, x, z, hx, hz => Zae h hz hx rfl
 | d + 1, i, x, z, hx, hz => by
  have hl := (List.getElem?_eq_some_iff.1 hz).1
  have hm : E[i + d + 1]? = some (E[i + d + 1]'(by omega)) := List.getElem?_eq_getElem _
  have h1 := Zil h d i x _ hx hm
  have h2 := Zae h hz hm (by omega)
  omega
def eiR (E : List GEdge) (id : Int) : Int := ixP (fun e : GEdge => decide (e.id = id)) E
theorem Zmx (h : Xn V E) (he : e ∈ E) : 0 ≤ eiR E e.id ∧ (eiR E e.id).toNat < E.length ∧ E[(eiR E e.id).toNat]? = some e := by
 have hany : E.any (fun x : GEdge => decide (x.id = e.id)) = true := List.any_eq_true.2 ⟨e, he, by simp⟩
 have hx : eiR E e.id = ((E.findIdx (fun x : GEdge => decide (x.id = e.id)) : Nat) : Int) := by unfold eiR ixP; rw [if_pos hany]
 have hlt : E.findIdx (fun x : GEdge => decide (x.id = e.id)) < E.length := List.findIdx_lt_length_of_exists ⟨e, he, by simp⟩
 have hp := List.findIdx_getElem (w := hlt)
 rw [hx, Int.toNat_natCast]
 refine ⟨by omega, hlt, ?_⟩
 rw [List.getElem?_eq_getElem hlt]
 obtain ⟨j, hj, ej⟩ := List.getElem_of_mem he
 have hp' : (E[E.findIdx (fun x : GEdge => decide (x.id = e.id))]'hlt).id = e.id := by simpa using hp
 have gi := List.getElem?_eq_getElem hlt
 have gj := List.getElem?_eq_getElem hj
 rcases Nat.lt_trichotomy (E.findIdx (fun x : GEdge => decide (x.id = e.id))) j with q | q | q
 ·obtain ⟨d, hd⟩ : ∃ d, j = E.findIdx (fun x : GEdge => decide (x.id = e.id)) + d + 1 := ⟨j - E.findIdx (fun x : GEdge => decide (x.id = e.id)) - 1, by omega⟩
  have := Zil h d _ _ _ gi (by rw [← hd]; exact gj)
  rw [hp', ej] at this; omega
 ·simp only [q]; rw [ej]
 obtain ⟨d, hd⟩ : ∃ d, E.findIdx (fun x : GEdge => decide (x.id = e.id)) = j + d + 1 := ⟨E.findIdx (fun x : GEdge => decide (x.id = e.id)) - j - 1, by omega⟩
 have := Zil h d _ _ _ gj (by rw [← hd]; exact gi)
 rw [hp', ej] at this; omega
end
section
variable {S : Int} {A : List Bool} {N : List (List Int)} {x v m : Int}
end
section
variable {V : List Int} {E : List GEdge} {S node s : Int} {A : List Bool} {N : List (List Int)}
end
end Go.KLib

namespace Go.KLib
section
variable {V : List Int} {E : List GEdge} {node s : Int} {k : Nat} {e y : GEdge} {S : Int} {A : List Bool} {N : List (List Int)}
variable {c q : Nat} {x m t : Int} {r : List Int}
end
section
variable {N : List (List Int)} {x v m z : Int} {l : List Int} {k : Nat} {q : Int}
end
end Go.KLib

namespace Go.KLib
open Go.Sort Go.RowKit Go.Shelf Go.Proofs
end Go.KLib

namespace Go.KLib
section
variable {β : Type} {f : β → List UInt8} {l : List β} {k : Nat} {y : β} {sep : List UInt8}
end
section
variable {l : List Pair} {k : Nat} {y : Pair}
end
section
variable {l : List Pair}
end
section
variable {S : Int} {A : List Bool} {N : List (List Int)} {r : List Int} {k i : Nat} {t : Int} {b : Bool} {X : List UInt8}
end
end Go.KLib

namespace Go.KLib
open Go.Sort Go.RowKit Go.Shelf Go.Proofs
section
variable {s : List UInt8} {k : Nat} {p : List UInt8}
end
end Go.KLib

namespace Go.KLib
structure Chg where
 ins : Bool
 eid : Int
 ef : Int
 et : Int
 el : Int
 deriving DecidableEq
def Chg.cs (p : Chg) : List Value := [.bool p.ins, .int .i64 p.eid, .int .i64 p.ef, .int .i64 p.et, .int .i64 p.el]
theorem Chg.len (p : Chg) : p.cs.length = 5 := rfl
theorem Chg.one (x : Chg) : ∀ y ∈ x.cs, y.oneCell' = true := by intro y hy; simp [Chg.cs] at hy; rcases hy with rfl | rfl | rfl | rfl | rfl <;> rfl
def Chg.edge (c : Chg) : GEdge := ⟨c.eid, c.ef, c.et, c.el⟩
def Zii (k : Int) (n : Nat) : List Chg := (List.range n).map fun (i : Nat) => ⟨decide ((k + 5 * i).tmod 3 = 0), k + 5 * i + 1, k + 5 * i + 2, k + 5 * i + 3, k + 5 * i + 4⟩
@[simp] theorem mkChg_len (k : Int) (n : Nat) : (Zii k n).length = n := by simp [Zii]
theorem Zlz (a : List Chg) {i : Nat} (hi : i < a.length) {kk k : Int} (h : kk = k + 5 * i) : (Zii k i ++ a.drop i).set i ⟨decide (kk.tmod 3 = 0), kk + 1, kk + 1 + 1, kk + 1 + 1 + 1, kk + 1 + 1 + 1 + 1⟩ = Zii k (i + 1) ++ a.drop (i + 1) := by
 subst h
 have h2 := Zea a (fun (q : Nat) => (⟨decide ((k + 5 * q).tmod 3 = 0), k + 5 * q + 1, k + 5 * q + 2, k + 5 * q + 3, k + 5 * q + 4⟩ : Chg)) hi
 unfold Zii
 refine Eq.trans (congrArg _ ?_) h2
 simp only [Int.add_assoc]
 all_goals rfl
def insK (E : List GEdge) (id : Int) : Nat := (E.takeWhile fun x => decide (x.id < id)).length
def insL (E : List GEdge) (e : GEdge) : List GEdge := E.take (insK E e.id) ++ [e] ++ E.drop (insK E e.id)
def Zhu (V : List Int) (E : List GEdge) (e : GEdge) : Prop := Xn V E ∧ Xq ((V.length : Int) - 1) e ∧ eiR E e.id < 0 ∧ ¬ E.length = 12
noncomputable def insR (V : List Int) (E : List GEdge) (e : GEdge) : List GEdge × Bool := bif tt (Zhu V E e) then (insL E e, true) else (E, false)
noncomputable def delR (V : List Int) (E : List GEdge) (id : Int) : List GEdge × Bool := bif tt (Xn V E ∧ 0 ≤ eiR E id) then (E.take (eiR E id).toNat ++ E.drop ((eiR E id).toNat + 1), true) else (E, false)
section
variable {V : List Int} {E : List GEdge} {e y : GEdge} {id : Int} {k : Nat}
theorem Xs (h : Zhu V E e) : insR V E e = (insL E e, true) := by unfold insR; rw [← Xt h]; rfl
theorem Xu (h : ¬ Zhu V E e) : insR V E e = (E, false) := by unfold insR; rw [← Zu h]; rfl
theorem Zbw (h : Xn V E ∧ 0 ≤ eiR E id) : delR V E id = (E.take (eiR E id).toNat ++ E.drop ((eiR E id).toNat + 1), true) := by unfold delR; rw [← Xt h]; rfl
theorem Zbs (h : ¬ (Xn V E ∧ 0 ≤ eiR E id)) : delR V E id = (E, false) := by unfold delR; rw [← Zu h]; rfl
def InsP (E : List GEdge) (id : Int) (k : Nat) : Prop := ∀ x ∈ E.take k, x.id < id
theorem Zhg : InsP E id 0 := fun x h => by simp at h
theorem Zhh (h : InsP E id k) (hy : E[k]? = some y) (hl : y.id < id) : InsP E id (k + 1) := fun x hx => by
 rw [Zbj hy] at hx
 rcases List.mem_append.1 hx with q | q
 ·exact h x q
 rw [List.mem_singleton.1 q]; exact hl
theorem Zld (h : InsP E id k) (hk : k ≤ E.length) : k ≤ insK E id := by
 unfold insK
 have e : E = E.take k ++ E.drop k := (List.take_append_drop k E).symm
 rw [e, List.takeWhile_append_of_pos (fun x hx => by simpa using h x hx), List.length_append, List.length_take]
 omega
theorem Qp (h : InsP E id k) (hy : E[k]? = some y) (hl : ¬ y.id < id) : insK E id = k := by
 have hk := (List.getElem?_eq_some_iff.1 hy).1
 unfold insK
 have ey : E[k] = y := (List.getElem?_eq_some_iff.1 hy).2
 have e : E = E.take k ++ y :: E.drop (k + 1) := by rw [← ey, List.getElem_cons_drop, List.take_append_drop]
 rw [e, List.takeWhile_append_of_pos (fun x hx => by simpa using h x hx), List.takeWhile_cons, if_neg (by simpa using hl), List.append_nil, List.length_take]
 omega
theorem Zao (h : InsP E id k) (hk : E.length ≤ k) (hk2 : k ≤ E.length) : insK E id = k := by
 have := Zld h hk2
 have h2 : insK E id ≤ E.length := by unfold insK; exact (List.takeWhile_sublist _).length_le
 omega
end
theorem Zip (E : List GEdge) (id : Int) : eiR E id = -1 ∨ (0 ≤ eiR E id ∧ eiR E id < E.length) := by
 by_cases h : eiR E id < 0
 ·left
  unfold eiR ixP at *
  split at h
  ·omega
  rename_i h2; rw [if_neg h2]
 right
 unfold eiR at *
 obtain ⟨k, x, e, hx, _, hk⟩ := Zmr h
 rw [e]; omega
end Go.KLib

namespace Go.KLib
noncomputable def Zbp (V : List Int) (E : List GEdge) (c : Chg) : Option (List GEdge) :=
 bif c.ins then (bif (insR V E c.edge).2 then some (insR V E c.edge).1 else none)
 else bif decide (c.edge ∈ E) then (bif (delR V E c.eid).2 then some (delR V E c.eid).1 else none) else none
noncomputable def apL (V : List Int) (E : List GEdge) (l : List Chg) : Option (List GEdge) := l.foldlM (Zbp V) E
def ApOk (V : List Int) (E : List GEdge) (l : List Chg) (m : Nat) : Prop := Xn V E ∧ l.length ≤ m ∧ (apL V E l).isSome = true
noncomputable def apE (V : List Int) (E : List GEdge) (l : List Chg) (m : Nat) : List GEdge := bif tt (ApOk V E l m) then (apL V E l).getD E else E
section
variable {V : List Int} {E F : List GEdge} {c : Chg} {l : List Chg} {k m : Nat}
theorem Zfp (h : c.ins = true) (h2 : (insR V E c.edge).2 = true) : Zbp V E c = some (insR V E c.edge).1 := by unfold Zbp; rw [h, h2]; rfl
theorem Qb (h : c.ins = true) (h2 : (insR V E c.edge).2 = false) : Zbp V E c = none := by unfold Zbp; rw [h, h2]; rfl
theorem Zfs (h : c.ins = false) (h1 : c.edge ∈ E) (h2 : (delR V E c.eid).2 = true) : Zbp V E c = some (delR V E c.eid).1 := by unfold Zbp; rw [h, h2, decide_eq_true h1]; rfl
theorem Xz (h : c.ins = false) (h2 : (delR V E c.eid).2 = false) : Zbp V E c = none := by
 unfold Zbp; rw [h, h2]; cases decide (c.edge ∈ E) <;> rfl
theorem Zbe (h : c.ins = false) (h1 : ¬ c.edge ∈ E) : Zbp V E c = none := by unfold Zbp; rw [h, decide_eq_false h1]; rfl
theorem Zhn {y : GEdge} (h : c.ins = false) (h0 : eiR E c.eid < 0 ∨ (E[(eiR E c.eid).toNat]? = some y ∧ ¬ y = c.edge)) : Zbp V E c = none := by
 by_cases hv : Xn V E
 ·refine Zbe h fun hm => ?_
  obtain ⟨g1, _, g3⟩ := Zmx hv hm
  have e : c.edge.id = c.eid := rfl
  rw [e] at g1 g3
  rcases h0 with h0 | ⟨h0, h1⟩
  ·omega
  rw [g3] at h0; injection h0 with h0; exact h1 h0.symm
 exact Xz h (by rw [Zbs fun q => hv q.1])
theorem Zbl (h : c.ins = false) (h0 : eiR E c.eid < 0) : Zbp V E c = none := Zhn (y := ⟨0, 0, 0, 0⟩) h (.inl h0)
theorem Zlw {y : GEdge} (h : c.ins = false) (h0 : E[(eiR E c.eid).toNat]? = some y) (h1 : ¬ y = c.edge) : Zbp V E c = none := Zhn h (.inr ⟨h0, h1⟩)
theorem Zjj {y : GEdge} (hy : E[k]? = some y) (h : y = c.edge) : c.edge ∈ E := by rw [← h]; exact Qf hy
theorem Zew (V : List Int) (E : List GEdge) (e : GEdge) : (insR V E e).1.length ≤ E.length + 1 := by
 by_cases h : Zhu V E e
 ·rw [Xs h]; unfold insL; simp only [List.length_append, List.length_take, List.length_drop, List.length_singleton]; omega
 rw [Xu h]; exact Nat.le_succ _
theorem Zev (V : List Int) (E : List GEdge) (id : Int) : (delR V E id).1.length ≤ E.length := by
 by_cases h : Xn V E ∧ 0 ≤ eiR E id
 ·rw [Zbw h]; simp only [List.length_append, List.length_take, List.length_drop]; omega
 rw [Zbs h]; exact Nat.le_refl _
theorem Zbm {y : GEdge} (h : c.ins = false) (h0 : E[(eiR E c.eid).toNat]? = some y) (h1 : ¬ [y.id, y.f, y.t, y.label] = [c.eid, c.ef, c.et, c.el]) : Zbp V E c = none := Zlw h h0 fun e => h1 (by rw [e]; rfl)
theorem Zfl {y : GEdge} (hy : E[k]? = some y) (h : [y.id, y.f, y.t, y.label] = [c.eid, c.ef, c.et, c.el]) : c.edge ∈ E := Zjj hy (by
 obtain ⟨a, b, d, e⟩ := y
 simp only [List.cons.injEq, and_true] at h
 unfold Chg.edge; rw [h.1, h.2.1, h.2.2.1, h.2.2.2])
theorem Xf (h : apL V E (l.take k) = some F) (hc : l[k]? = some c) : apL V E (l.take (k + 1)) = Zbp V F c := by
 unfold apL at *
 rw [Zbj hc, List.foldlM_append, h]
 show (Zbp V F c).bind _ = _
 cases Zbp V F c <;> rfl
theorem Xo (h : apL V E (l.take k) = none) : apL V E l = none := by
 have e : l = l.take k ++ l.drop k := (List.take_append_drop k l).symm
 unfold apL at *
 rw [e, List.foldlM_append, h]; rfl
theorem Qa (h : apL V E (l.take k) = some F) (hk : l.length ≤ k) : apL V E l = some F := by rwa [List.take_of_length_le hk] at h
theorem ap_y (hv : Xn V E) (hm : l.length ≤ m) (h : apL V E l = some F) : apE V E l m = F ∧ tt (ApOk V E l m) = true := by
 have q : ApOk V E l m := ⟨hv, hm, by rw [h]; rfl⟩
 unfold apE; rw [← Xt q, h]; exact ⟨rfl, rfl⟩
theorem ap_n (h : ¬ ApOk V E l m) : apE V E l m = E ∧ tt (ApOk V E l m) = false := by
 unfold apE; rw [← Zu h]; exact ⟨rfl, rfl⟩
theorem Zbd (h : apL V E l = none) : ¬ ApOk V E l m := fun q => by have := q.2.2; rw [h] at this; cases this
end
end Go.KLib

namespace Go.KLib
open Go.Sort
section
variable {P : Program} {w : World} {l : KL} {dst : Option Tmp} {ty : TypeId} {pos : String} {aft : Array Go.Edge} {gd : Option (Nat × Bool)} {K : Value → World → Prop}
variable {e k n N m lo hi c L B : Nat} {v u sv : Value} {xs ys : List Value}
theorem Ow.ext {g off cap : Nat} (h : Ow w e k (.slice (some ⟨g, off, none⟩) n cap) n xs) (hc : n < cap) : ∃ z, z.length = k ∧ Ow w e k (.slice (some ⟨g, off, none⟩) (n + 1) cap) (n + 1) (xs ++ z) := by
 obtain ⟨hl, ⟨hv, _⟩ | ⟨g', off', cap', cur, hv, hg, hn, hm, hs, he⟩⟩ := h
 ·cases hv
 injection hv with hv h2 h3
 injection hv with hv; injection hv with h4 h5
 subst h3 h4 h5
 have hk : (n + 1) * k ≤ cap * k := Nat.mul_le_mul_right k hc
 rw [Nat.succ_mul] at hk
 have hcl : cur.toList.length = cur.size := Array.length_toList
 refine ⟨((cur.toList.drop off).drop (n * k)).take k, ?_, ?_, .inr ⟨g, off, cap, cur, rfl, hg, hc, hm, hs, ?_⟩⟩
 ·rw [List.length_take, List.length_drop, List.length_drop]; omega
 ·rw [List.length_append, hl, List.length_take, List.length_drop, List.length_drop, Nat.succ_mul]; omega
 rw [Nat.succ_mul, List.take_add, he]
theorem Zfm {β : Type} (C Z : List β) (off a t : Nat) (h : off + t ≤ C.length) (ha : a + Z.length ≤ t) : ((C.take (off + a) ++ Z ++ C.drop (off + a + Z.length)).drop off).take t = ((C.drop off).take t).take a ++ Z ++ ((C.drop off).take t).drop (a + Z.length) := by
 have e1 : (C.take (off + a) ++ Z ++ C.drop (off + a + Z.length)).drop off = (C.drop off).take a ++ (Z ++ C.drop (off + a + Z.length)) := by
  rw [List.append_assoc, List.drop_append_of_le_length (by rw [List.length_take]; omega), List.drop_take, show off + a - off = a by omega]
 have l1 : ((C.drop off).take a).length = a := by rw [List.length_take, List.length_drop]; omega
 rw [e1, List.take_append, l1, List.take_of_length_le (by omega : ((C.drop off).take a).length ≤ t), List.take_append, List.take_of_length_le (by omega : Z.length ≤ t - a), List.take_take, show min a t = a by omega, List.append_assoc]
 congr 2
 rw [List.drop_take, List.drop_drop, show off + (a + Z.length) = off + a + Z.length by omega, show t - (a + Z.length) = t - a - Z.length by omega]
theorem Zfr {x y : Operand} {t t' : TypeId} {e' : TypeId} (hs : Ow w e' k v N xs) (hu : u = cutV v k lo hi) (hlo : lo ≤ hi) (hhi : hi ≤ N) (ht : elB P t = some e) (hk : Ya P e = some k) (hsrc : Sl w L B k sv m ys) (hc : c = min m (hi - lo)) (h0 : 0 < c)
   (h1 : ∀ y ∈ ys.take (c * k), y.oneCell' = true) (hx : ev l x = some u) (hy : ev l y = some sv)
   (kk : ∀ w', Ow w' e' k v N (xs.take (lo * k) ++ ys.take (c * k) ++ xs.drop (lo * k + c * k)) → Ch (bl v) w w' → K (.int .i64 (c : Int)) w') :
   Step P l ⟨dst, .call { callee := .builtin .copy, args := #[x, y], argTypes := #[t, t'] }, ty, pos, aft, gd⟩ w K := by
 obtain ⟨hl, ⟨rfl, hN⟩ | ⟨g, off, cap, cur, rfl, hg, hn, hm, hf, ht2⟩⟩ := hs
 ·omega
 obtain ⟨hyl, A, sc, rfl, s1, s2, s3⟩ := hsrc
 obtain ⟨ad, rfl, hat⟩ := s3 (by omega)
 have hcl : ¬ cap = lo := by omega
 have hu2 : u = .slice (some ⟨g, off + lo * k, none⟩) (hi - lo) (cap - lo) := by
  rw [hu]; simp only [cutV, sliced]
  rw [if_neg hcl]
  simp [add_lit]
 have hck : c * k ≤ m * k := Nat.mul_le_mul_right k (by omega)
 have hyt : (ys.take (c * k)).length = c * k := by rw [List.length_take, hyl]; omega
 have hsum : lo * k + c * k ≤ N * k := by rw [← Nat.add_mul]; exact Nat.mul_le_mul_right k (by omega)
 have hcap : N * k ≤ cap * k := Nat.mul_le_mul_right k hn
 have hf1 := run_firstCells_some (P := P) (w := w) k c ad m sc (ys.take (c * k)) hyt (fun j v hj => by
  rw [List.getElem?_take] at hj
  split at hj
  ·exact hat.2 j v hj
  cases hj)
 have hst := run_storeCells_at (P := P) g (off + lo * k) e' (ys.take (c * k)) 0 cur w hg (by rw [hyt]; omega) h1
 refine Step.of (v := .int .i64 (c : Int)) (w' := w.setRow g (cur.toList.take (off + lo * k) ++ ys.take (c * k) ++ cur.toList.drop (off + lo * k + (ys.take (c * k)).length)).toArray) (fun ρ hρ => ?_) (kk _ ?_ (Ch.setRow w g _))
 ·have h2 := hρ _ _ hx
  have h3 := hρ _ _ hy
  rw [hu2] at h2
  simp only [Nat.add_zero] at hst
  have hmin : Nat.min m (hi - lo) = c := hc.symm
  simp [execOp, resolve, invoke, builtin, Builtin.copy_, run_underlying (Zab ht), h2, h3, Builtin.lenOf, hmin, Qn hk, hf1, hst, goInt]
 refine ⟨by simp only [List.length_append, List.length_take, List.length_drop, hl, hyl]; omega, .inr ⟨g, off, cap, _, rfl, Zaf hg, hn, hm, ?_, ?_⟩⟩
 ·simp only [List.size_toArray, List.length_append, List.length_take, List.length_drop, Array.length_toList, hyl]; omega
 have hcl2 : cur.toList.length = cur.size := Array.length_toList
 have := Zfm cur.toList (ys.take (c * k)) off (lo * k) (N * k) (by omega) (by rw [hyt]; exact hsum)
 rw [ht2, hyt] at this
 rw [hyt]
 exact this
theorem Zgm {g off cap : Nat} (h : ¬ cap = lo) : cutV (.slice (some ⟨g, off, none⟩) n cap) k lo hi = .slice (some ⟨g, off + lo * k, none⟩) (hi - lo) (cap - lo) := by
 simp only [cutV, sliced]
 rw [if_neg h]
 simp [add_lit]
theorem Zna {x y : Operand} {t tn : TypeId} {kq kn : IntKind} {by_ g off cap : Nat} {z : Value} (ht : elB P t = some e) (hk : Ya P e = some k) (hb : Qo P e = some by_) (hz : Yw P e = some z) (hzs : z.cells.size = k) (hk0 : 0 < k) (htn : P.underlying tn = some (.int kn))
   (ho : Ow w e k (.slice (some ⟨g, off, none⟩) n cap) n xs) (h0 : 0 < m) (hgr : cap < n + m) (h63 : n + m ≤ 9223372036854775807) (hbytes : (n + m) * by_ ≤ 140737488355328) (hx : ev l x = some (.slice (some ⟨g, off, none⟩) n cap)) (hy : ev l y = some (.int kq (m : Int)))
   (kk : ∀ G w' Z, n + m ≤ G → Z.length = m * k → Ow w' e k (.slice (some ⟨w.heap.size, 0, none⟩) (n + m) G) (n + m) (xs ++ Z) → Ch [] w w' → K (.slice (some ⟨w.heap.size, 0, none⟩) (n + m) G) w') :
   Step P l ⟨dst, .call { callee := .builtin .append, args := #[x, y], argTypes := #[t, tn] }, ty, pos, aft, gd⟩ w K := by
 obtain ⟨i, hi, hiz, his, hib⟩ := Zgy hk hb hz
 have hel := Zab ht
 have hmx : n + m ≤ maxLen := by simp only [maxLen]; omega
 have hcells : ∀ j u, xs[j]? = some u → w.drew.cell? ((⟨g, off, none⟩ : Addr).add j) = some u := fun j u hu => by
  rw [add_lit]; exact Ow.cells ho rfl j u hu
 subst his hib
 have hold := run_firstCells_some (P := P) (w := w.drew) i.size n ⟨g, off, none⟩ n cap xs ho.1 hcells
 have hle : m * i.bytes ≤ (n + m) * i.bytes := Nat.mul_le_mul_right _ (by omega)
 have hr := Lib.run_append_grow_zeros (P := P) w t tn ty e i z kq kn hel htn hi hiz (some ⟨g, off, none⟩) n cap xs hold m h0 hk0 hgr (by omega) (by omega) (growslice_fits hgr hbytes)
 have hge := grownCap_ge w (n + m) cap e
 have hcm' : grownCap w (n + m) cap e ≤ maxLen := grownCap_le_maxLen w (n + m) cap e hmx
 refine Step.of (v := .slice (some ⟨w.heap.size, 0, none⟩) (n + m) (grownCap w (n + m) cap e)) (w' := w.drew.alloc (.cells (xs.toArray ++ Builtin.zeroCells z.cells m ++ Builtin.zeroCells z.cells (grownCap w (n + m) cap e - (n + m))) e)) (fun ρ hρ => ?_) (kk _ _ (Builtin.zeroCells z.cells m).toList hge (by rw [Array.length_toList, size_zeroCells, hzs]) ?_ ⟨rfl, rfl, rfl, by simp, fun j hj _ => heap_alloc_old w.drew _ hj⟩)
 ·have h2 := hρ _ _ hx
  have h3 := hρ _ _ hy
  simp only [execOp, resolve, invoke, builtin, h2, h3, Sem.run_bind, Sem.run_pure, Result.andThen_ok, List.map_toArray, List.map_cons, List.map_nil]
  rw [hr]; rfl
 refine ⟨by rw [List.length_append, ho.1, Array.length_toList, size_zeroCells, hzs, Nat.add_mul], .inr ⟨w.heap.size, 0, _, _, rfl, heap_alloc_new w.drew _, hge, hcm', ?_, ?_⟩⟩
 ·simp only [Array.size_append, List.size_toArray, size_zeroCells, hzs, ho.1, ← Nat.add_mul]
  refine Nat.le_of_eq ?_
  rw [Nat.zero_add]; congr 1; omega
 simp only [Array.toList_append, List.append_assoc, List.drop_zero]
 rw [← List.append_assoc]
 have hl : (n + m) * i.size = (xs ++ (Builtin.zeroCells z.cells m).toList).length := by rw [List.length_append, ho.1, Array.length_toList, size_zeroCells, hzs, Nat.add_mul]
 rw [hl]
 exact List.take_left
end
end Go.KLib

namespace Go.KLib
section
variable {S : Int} {A : List Bool} {N : List (List Int)} {r : List Int} {k i : Nat} {t : Int}
end
section
variable {l : List Token} {k : Nat} {y : Token}
end
end Go.KLib

namespace Go.KLib
open Go.Sort Go.RowKit Go.Shelf Go.Proofs
end Go.KLib
namespace Go
end Go

