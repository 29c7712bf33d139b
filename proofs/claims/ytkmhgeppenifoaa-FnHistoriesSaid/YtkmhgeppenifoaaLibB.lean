/- The library of this proof: a logic of the code's forms, memory, data, and plain laws. It speaks of no program. -/
import Derived.WalkKit
import Derived.OrdersHeld
import Derived.WalkLawsBesides
import Derived.WalkSpells
import Derived.ProofKit
import Derived.Deep.Slices
import Derived.Deep.Fields
import Derived.Lib.SmallJoins
import Derived.Laws.Append
import Derived.Laws.CopyRow
import Derived.Laws.AppendOwn
import Derived.Laws.Small
import Derived.Shelf.Sort.Plain
import Derived.Shelf.Slices.CompactI
import Derived.Shelf.Slices.Delete
import Derived.Ground.NamesProg
import Derived.Ground.Names2Prog
import Derived.Shelf.Lay
import Derived.Shelf.Slices.In.SortNone
import Derived.MapKept
import Derived.Ground.SlsfProg
import Derived.Shelf.SlSortCmp.NoneTotal
import Derived.Laws.BytesString
import Derived.Laws.Strings2
import Derived.Laws.Concat
import Derived.Shelf.Strconv.Itoa3
import Derived.Shelf.Strings.OnBuilder
import Derived.Lib.Split
import Derived.Shelf.Strings.SplitShaped
import Derived.Lib.AppendZerosOnto
import Derived.Lib.Overlaps
import Derived.Handed
import Derived.ShapedOpen
import Derived.Lib.SlTrimSet
import Derived.Lib.IndexMore
import Derived.Lib.Atoi
import Derived.Lib.AtoiBound
import Derived.Lib.ItoaNum
import Derived.Shelf.Strconv.Atoi
import Derived.Shelf.Strconv.ErrVar
import Derived.Shelf.Strings.Cut
import Derived.Shelf.Strings.SlTrimAscii
import Derived.Stop.LaidErr
import Derived.Lib.AppendIntMem
import Derived.Lib.AtoiErrMem
import Derived.Test.YtkmhgeppenifoaaLibA

namespace Go.KLib
open Go.Sort
section
variable {P : Program} {w : World} {l : KL} {dst : Option Tmp} {ty : TypeId} {pos : String} {aft : Array Go.Edge} {gd : Option (Nat × Bool)} {K : Value → World → Prop}
variable {α : Type} {cs : α → List Value} {e k n lo hi i : Nat} {v : Value} {xs : List α} {C D : List Value}
theorem Zcs {w' : World} {x : Operand} {t : TypeId} {Lo Hi : Option Operand} {A : Option Addr} {c : Nat} (ht : elB P t = some e) (hk : Ya P e = some k) (hx : ev l x = some (.slice A n c))
   (hL : bndB l Lo 0 lo) (hH : bndB l Hi n hi) (h1 : lo ≤ hi) (h2 : hi ≤ c) (hn : n ≤ c) : Qe P l ⟨dst, .slice t x Lo Hi none, ty, pos, aft, gd⟩ w' (cutV (.slice A n c) k lo hi) w' := fun ρ hρ => by
 have e1 := Zjb (P := P) (w := w') (A := A) (n := n) (c := c) ht hk (Lo.map ρ) (Hi.map ρ)
  (by cases Lo with
   | none => exact .inr ⟨rfl, hL⟩
   | some x => obtain ⟨q, i, h, rfl⟩ := hL; exact .inl ⟨q, by rw [Option.map_some, hρ _ _ h]⟩)
  (by cases Hi with
   | none => exact .inr ⟨rfl, hH⟩
   | some x => obtain ⟨q, i, h, rfl⟩ := hH; exact .inl ⟨q, by rw [Option.map_some, hρ _ _ h]⟩) h1 h2 hn
 simp only [execOp, hρ _ _ hx]
 simpa using congrArg (fun r => r.andThen fun v w => Result.ok (Next.value v) w) e1
theorem Zmv {t : TypeId} {x : Operand} {A : Option Addr} {c : Nat} {w' : World} (ht : elB P t = some e) (hx : ev l x = some (.slice A n c)) :
   Qe P l ⟨dst, .call { callee := .builtin .cap, args := #[x], argTypes := #[t] }, ty, pos, aft, gd⟩ w' (.int .i64 (c : Int)) w' := fun ρ hρ => by
 simp [execOp, resolve, invoke, builtin, Builtin.cap_, run_underlying (Zab ht), hρ _ _ hx, goInt]
theorem s_ov {x y : Operand} {t r : TypeId} {ts : Array TypeId} {f : FuncId} {fn : Func} {a b o1 o2 la ca lb cb : Nat} {c1 c2 : Array Value} {e1 e2 : TypeId} (hf : P.funcs[f]? = some fn) (hname : (fn.name == "runtime.NumGoroutine") = false)
   (hbd : fn.body.isNone = true) (hn : Extern.findNext fn = none) (he : Extern.find fn = some (Extern.SlicesOverlaps.overlaps #[t, t] #[r])) (ht : elB P t = some e) (hk : Ya P e = some k)
   (hx : ev l x = some (.slice (some ⟨a, o1, none⟩) la ca)) (hy : ev l y = some (.slice (some ⟨b, o2, none⟩) lb cb)) (ha : w.heap[a]? = some (.cells c1 e1 (0, 0))) (hb : w.heap[b]? = some (.cells c2 e2 (0, 0))) (hne : a ≠ b) (h0 : c2.size ≠ 0)
   (kk : K (.bool false) w) : Step P l ⟨dst, .call { callee := .value (.func f), args := #[x, y], argTypes := ts }, ty, pos, aft, gd⟩ w K := by
 have hz : ∀ w : World, (Go.sizeOf e).run P w = .ok k w := fun w => Qn hk
 have hov := Lib.run_overlaps_apart (P := P) w t r e (Zab ht) k hz ⟨a, o1, none⟩ ⟨b, o2, none⟩ la ca lb cb hne e1 e2 c1.size c2.size (by simp [World.shape?, ha]) (by simp [World.shape?, hb]) h0 (by simp [World.frozen?, ha]) (by simp [World.frozen?, ha])
 refine Step.of (v := .bool false) (w' := w) (fun ρ hρ => ?_) kk
 have h1 : ρ (.func f) = .func (.func f) #[] #[] := hρ _ _ rfl
 have h2 := hρ _ _ hx
 have h3 := hρ _ _ hy
 have h4 := run_callFunc_extern (P := P) hf hname hbd hn he #[.slice (some ⟨a, o1, none⟩) la ca, .slice (some ⟨b, o2, none⟩) lb cb] w
 rw [hov] at h4
 simp [execOp, resolve, h1, h2, h3, Deferred.ofValue, invoke, h4]
theorem Ol.ow {A : Option Addr} {c : Nat} (h : Ol cs e k w (.slice A xs.length c) xs) : Ow w e k (.slice A xs.length c) xs.length (xs.flatMap cs) := h
end
section
variable {β : Type} {C X Z : List β} {i n k : Nat}
theorem Zmo (hC : C.length = i * k) (hX : X.length = k) (hZ : k ≤ Z.length) : (C ++ Z).take (i * k) ++ X.take (1 * k) ++ (C ++ Z).drop (i * k + 1 * k) = C ++ X ++ Z.drop k := by
 rw [← hC, List.take_left, Nat.one_mul, ← hX, List.take_length, List.drop_append, List.drop_of_length_le (by omega), List.nil_append, show C.length + X.length - C.length = X.length by omega]
theorem Zmk {D : List β} (hC : C.length = i * k) (hX : X.length = k) (hD : D.length = (n - i) * k) (hi : i ≤ n) (hZ : Z.length = (n + 1 - i) * k) : (C ++ X ++ Z.drop k).take ((i + 1) * k) ++ D.take ((n - i) * k) ++ (C ++ X ++ Z.drop k).drop ((i + 1) * k + (n - i) * k) = C ++ X ++ D := by
 have h1 : (C ++ X).length = (i + 1) * k := by rw [List.length_append, hC, hX, Nat.succ_mul]
 have hs : (i + 1) * k + (n - i) * k = (n + 1) * k := by rw [← Nat.add_mul]; congr 1; omega
 have hz : (n + 1 - i) * k = (n - i) * k + k := by rw [show n + 1 - i = (n - i) + 1 by omega, Nat.succ_mul]
 rw [← h1, List.take_left, ← hD, List.take_length, List.drop_of_length_le]
 ·rw [List.append_nil]
 simp only [List.length_append, List.length_drop, hZ, hz]; omega
theorem Zmj {A Z : List β} (hA : A.length = n * k) (hZ : Z.length = k) (hi : i ≤ n) : (A ++ Z).take ((i + 1) * k) ++ ((A ++ Z).drop (i * k)).take ((n - i) * k) ++ (A ++ Z).drop ((i + 1) * k + (n - i) * k) = (A ++ Z).take ((i + 1) * k) ++ A.drop (i * k) := by
 have hs : (i + 1) * k + (n - i) * k = (n + 1) * k := by rw [← Nat.add_mul]; congr 1; omega
 have hm : i * k ≤ n * k := Nat.mul_le_mul_right k hi
 have hd : (n - i) * k = n * k - i * k := Nat.sub_mul ..
 have hx : (A ++ Z).drop ((n + 1) * k) = [] := List.drop_of_length_le (by rw [List.length_append, hA, hZ, Nat.succ_mul]; exact Nat.le_refl _)
 have h2 : ((A ++ Z).drop (i * k)).take ((n - i) * k) = A.drop (i * k) := by
  rw [List.drop_append_of_le_length (by omega), List.take_append_of_le_length (by rw [List.length_drop]; omega), List.take_of_length_le (by rw [List.length_drop]; omega)]
 rw [hs, hx, List.append_nil, h2]
theorem Zmq {A : List β} (hA : A.length = n * k) (hZ : Z.length = k) (hX : X.length = k) (hi : i < n) : ((A ++ Z).take ((i + 1) * k) ++ A.drop (i * k)).take (i * k) ++ X.take (1 * k) ++ ((A ++ Z).take ((i + 1) * k) ++ A.drop (i * k)).drop (i * k + 1 * k) = A.take (i * k) ++ X ++ A.drop (i * k) := by
 have hm : (i + 1) * k ≤ n * k := Nat.mul_le_mul_right k hi
 have hs : (i + 1) * k = i * k + k := Nat.succ_mul ..
 rw [Nat.one_mul]
 conv => lhs; rw [← hX]
 rw [List.take_length, hX]
 have e1 : (A ++ Z).take ((i + 1) * k) = A.take ((i + 1) * k) := List.take_append_of_le_length (by omega)
 have l1 : (A.take ((i + 1) * k)).length = i * k + k := by rw [List.length_take]; omega
 rw [e1, List.take_append_of_le_length (by omega), List.take_take, show min (i * k) ((i + 1) * k) = i * k by omega, List.drop_append, l1, List.drop_of_length_le (by omega), List.nil_append, Nat.sub_self, List.drop_zero]
end
end Go.KLib

namespace Go.KLib
open Go.Sort
instance : Inhabited GEdge := ⟨⟨0, 0, 0, 0⟩⟩
section
variable {P : Program} {w : World} {l : KL} {dst : Option Tmp} {ty : TypeId} {pos : String} {aft : Array Go.Edge} {gd : Option (Nat × Bool)} {K : Value → World → Prop}
variable {α : Type} {cs : α → List Value} {e k n N m lo hi c i j : Nat} {v u sv : Value} {A : Option Addr} {xs ys : List Value} {X : List α}
theorem Zkp (A : Option Addr) (n m c : Nat) : bl (.slice A n c) = bl (.slice A m c) := by cases A <;> simp [bl, Value.ownBlock]
theorem Ow.lec (h : Ow w e k (.slice A n c) n xs) : n ≤ c := by
 obtain ⟨_, A', c', hv, h1, _⟩ := h.sl
 injection hv with _ _ h3
 omega
theorem Ow.some (h : Ow w e k (.slice A n c) n xs) (h0 : 0 < n) : ∃ g off, A = some ⟨g, off, none⟩ := by
 obtain ⟨_, ⟨_, h1⟩ | ⟨g, off, cap, cur, hv, _⟩⟩ := h
 ·omega
 injection hv with h2 _ _
 exact ⟨g, off, h2⟩
theorem Zdk (h : Ow w e k (.slice A n c) n xs) (h0 : 0 < n) : cutV (.slice A n c) k 0 m = .slice A m c := by
 obtain ⟨g, off, rfl⟩ := h.some h0
 have := h.lec
 rw [Zgm (by omega)]; simp
theorem Ow.extA (h : Ow w e k (.slice A n c) n xs) (h0 : 0 < n) (hc : n < c) : ∃ z, z.length = k ∧ Ow w e k (.slice A (n + 1) c) (n + 1) (xs ++ z) := by
 obtain ⟨g, off, rfl⟩ := h.some h0
 exact h.ext hc
theorem Ow.cut0 (h : Ow w e k (.slice A n c) n xs) (h0 : 0 < n) (hi : i ≤ n) : Ow w e k (.slice A i c) i (xs.take (i * k)) := by
 have hk : i * k ≤ n * k := Nat.mul_le_mul_right k hi
 obtain ⟨hl, ⟨_, h1⟩ | ⟨g, off, cap, cur, hv, hg, hn, hm, hf, ht⟩⟩ := h
 ·omega
 injection hv with h2 _ h3
 subst h2 h3
 refine ⟨by rw [List.length_take, hl]; omega, .inr ⟨g, off, _, cur, rfl, hg, by omega, hm, hf, ?_⟩⟩
 rw [← ht, List.take_take, show min (i * k) (n * k) = i * k by omega]
theorem Ow.cutSl (h : Ow w e k v N xs) (h1 : lo ≤ hi) (h2 : hi ≤ N) : Sl w 0 w.heap.size k (cutV v k lo hi) (hi - lo) ((xs.drop (lo * k)).take ((hi - lo) * k)) := by
 have hk : lo * k + (hi - lo) * k ≤ N * k := by rw [← Nat.add_mul]; exact Nat.mul_le_mul_right k (by omega)
 obtain ⟨hl, A, c, rfl, hn, hm, hA⟩ := h.sl
 refine ⟨by rw [List.length_take, List.length_drop, hl]; omega, _, _, rfl, by omega, by omega, fun h0 => ?_⟩
 obtain ⟨ad, rfl, ha⟩ := hA (by omega)
 rw [if_neg (by omega)]
 exact ⟨ad.add (lo * k), rfl, ha.sub (lo * k) ((hi - lo) * k)⟩
theorem Zks {w' : World} {x : Operand} {t : TypeId} {Lo Hi : Option Operand} (ht : elB P t = some e) (hk : Ya P e = some k) (hx : ev l x = some (.slice A n c))
 (hL : bndB l Lo 0 lo) (hH : bndB l Hi n hi) (h1 : lo ≤ hi) (h2 : hi ≤ c) (hn : n ≤ c) (hv : cutV (.slice A n c) k lo hi = v) : Qe P l ⟨dst, .slice t x Lo Hi none, ty, pos, aft, gd⟩ w' v w' := hv ▸ Zcs ht hk hx hL hH h1 h2 hn
theorem Zml {x a b d : Operand} {t : TypeId} {q1 q2 q3 : IntKind} {z1 z2 z3 : Int} (ht : elB P t = some e) (hk : Ya P e = some k) (hx : ev l x = some (.slice A n c)) (ha : ev l a = some (.int q1 z1)) (hb : ev l b = some (.int q2 z2)) (hd : ev l d = some (.int q3 z3))
   (h0 : 0 ≤ z1) (h1 : z1 ≤ z2) (h2 : z2 ≤ z3) (h3 : z3 ≤ c) (kk : K (sliced A z1.toNat z2.toNat z3.toNat k) w) : Step P l ⟨dst, .slice t x (some a) (some b) (some d), ty, pos, aft, gd⟩ w K := by
 refine Step.of (v := _) (w' := w) (fun ρ hρ => ?_) kk
 obtain ⟨hu, he⟩ := Zix ht
 have hs : (sizeOf (P.elem t)).run P w = .ok k w := by rw [he]; exact Qn hk
 have e1 : (Instr.sliceAt t (.slice A n c) (some (.int q1 z1)) (some (.int q2 z2)) (some (.int q3 z3))).run P w = .ok (sliced A z1.toNat z2.toNat z3.toNat k) w := by
  rw [run_sliceAt_slice (P := P) (w := w) t _ _ _ _ hu, run_slice_lhm (P := P) (w := w) t A n c hu q1 q2 q3 z1 z2 z3 h0 h1 h2 h3, hs]; rfl
 unfold execOp
 simp only [Option.map_some, hρ _ _ hx, hρ _ _ ha, hρ _ _ hb, hρ _ _ hd, Sem.run_bind, e1, Result.andThen_ok, Sem.run_pure]
theorem Zlr {x y : Operand} {t tn : TypeId} {kq kn : IntKind} {by_ cap : Nat} {z : Value} {q : Int} (ht : elB P t = some e) (hk : Ya P e = some k) (hb : Qo P e = some by_) (hz : Yw P e = some z) (hzs : z.cells.size = k) (hk0 : 0 < k) (htn : P.underlying tn = some (.int kn))
   (ho : Ow w e k (.slice A n cap) n xs) (hA : ∃ g off, A = some ⟨g, off, none⟩) (hq : q = (m : Int)) (hN : n + m = N) (h0 : 0 < m) (hgr : cap < N) (h63 : N ≤ 9223372036854775807) (hbytes : N * by_ ≤ 140737488355328) (hx : ev l x = some (.slice A n cap)) (hy : ev l y = some (.int kq q))
   (kk : ∀ G w' Z, N ≤ G → Z.length = m * k → Ow w' e k (.slice (some ⟨w.heap.size, 0, none⟩) N G) N (xs ++ Z) → Ch [] w w' → K (.slice (some ⟨w.heap.size, 0, none⟩) N G) w') :
   Step P l ⟨dst, .call { callee := .builtin .append, args := #[x, y], argTypes := #[t, tn] }, ty, pos, aft, gd⟩ w K := by
 obtain ⟨g, off, rfl⟩ := hA
 subst hN hq
 exact Zna ht hk hb hz hzs hk0 htn ho h0 hgr h63 hbytes hx hy kk
theorem Zng {x y : Operand} {t r : TypeId} {ts : Array TypeId} {f : FuncId} {fn : Func} {e1 e2 c' : Nat} {A' : Option Addr} (hf : P.funcs[f]? = some fn) (hname : (fn.name == "runtime.NumGoroutine") = false)
   (hbd : fn.body.isNone = true) (hn : Extern.findNext fn = none) (he : Extern.find fn = some (Extern.SlicesOverlaps.overlaps #[t, t] #[r])) (ht : elB P t = some e) (hk : Ya P e = some k) (hk0 : 0 < k)
   (hv : Ow w e1 k (.slice A' m c') m ys) (h0 : 0 < m) (hs : Ow w e2 k v N xs) (hlo : lo < N) (hd : ∀ g ∈ bl v, g ∉ bl (.slice A' m c')) (hx : ev l x = some (.slice A' m c')) (hy : ev l y = some (cutV v k lo hi))
   (kk : K (.bool false) w) : Step P l ⟨dst, .call { callee := .value (.func f), args := #[x, y], argTypes := ts }, ty, pos, aft, gd⟩ w K := by
 obtain ⟨_, ⟨_, h1⟩ | ⟨a, o1, cap1, cur1, hv1, ha, hn1, hm1, hf1, _⟩⟩ := hv
 ·omega
 obtain ⟨_, ⟨_, h1⟩ | ⟨b, o2, cap2, cur2, rfl, hb, hn2, hm2, hf2, _⟩⟩ := hs
 ·omega
 injection hv1 with h2 _ h3
 subst h2 h3
 rw [Zgm (by omega)] at hy
 have hck : 1 * k ≤ cap2 * k := Nat.mul_le_mul_right k (by omega)
 refine s_ov hf hname hbd hn he ht hk hx hy ha hb ?_ ?_ kk
 ·rintro rfl
  exact hd a (by simp [bl, Value.ownBlock]) (by simp [bl, Value.ownBlock])
 omega
theorem Zko {s v' : List α} {v : Value} (h : Ow w e k v (s.length + 1) ((s.flatMap cs).take (i * k) ++ v'.flatMap cs ++ (s.flatMap cs).drop (i * k))) (hv : v'.length = 1) (hi : i ≤ s.length) (hc : ∀ y, (cs y).length = k) : Ol cs e k w v (s.take i ++ v' ++ s.drop i) := by
 unfold Ol
 rw [List.flatMap_append, List.flatMap_append, Zdo hc, Zdj hc, show (s.take i ++ v' ++ s.drop i).length = s.length + 1 by simp only [List.length_append, List.length_take, List.length_drop]; omega]
 exact h
end
section
variable {β : Type} {Z : List β} {i n k : Nat}
theorem Zlj {A : List β} (hA : A.length = n * k) (hZ : Z.length = k) (hi : i ≤ n) : (A ++ Z).take ((i + 1) * k) ++ (((A ++ Z).drop (i * k)).take ((n + 1 - i) * k)).take ((n - i) * k) ++ (A ++ Z).drop ((i + 1) * k + (n - i) * k) = (A ++ Z).take ((i + 1) * k) ++ A.drop (i * k) := by
 have : (n - i) * k ≤ (n + 1 - i) * k := Nat.mul_le_mul_right k (by omega)
 rw [List.take_take, show min ((n - i) * k) ((n + 1 - i) * k) = (n - i) * k by omega]
 exact Zmj hA hZ hi
theorem Zlq {A : List β} (hA : A.length = n * k) (hZ : Z.length = k) (hi : i ≤ n) : (((A ++ Z).drop (i * k)).take ((n + 1 - i) * k)).take ((n - i) * k) = A.drop (i * k) := by
 have h1 : (n - i) * k ≤ (n + 1 - i) * k := Nat.mul_le_mul_right k (by omega)
 have hd : (n - i) * k = n * k - i * k := Nat.sub_mul ..
 have hm : i * k ≤ n * k := Nat.mul_le_mul_right k hi
 rw [List.take_take, show min ((n - i) * k) ((n + 1 - i) * k) = (n - i) * k by omega, List.drop_append_of_le_length (by omega), List.take_append_of_le_length (by rw [List.length_drop]; omega), List.take_of_length_le (by rw [List.length_drop]; omega)]
theorem Zds {D : List β} (hD : D.length = n * k) : (D.drop (i * k)).take ((n - i) * k) = D.drop (i * k) := List.take_of_length_le (by rw [List.length_drop, hD, Nat.sub_mul]; exact Nat.le_refl _)
end
theorem Zhi {α : Type} {cs : α → List Value} {s : List α} {m : Nat} (h1 : ∀ x, ∀ y ∈ cs x, y.oneCell' = true) : ∀ y ∈ (s.flatMap cs).drop m, y.oneCell' = true := fun y hy => by
 obtain ⟨a, _, ha⟩ := List.mem_flatMap.1 (List.mem_of_mem_drop hy)
 exact h1 a y ha
theorem Zhq {α : Type} {cs : α → List Value} {s : List α} {m : Nat} (h1 : ∀ x, ∀ y ∈ cs x, y.oneCell' = true) : ∀ y ∈ (s.flatMap cs).take m, y.oneCell' = true := fun y hy => by
 obtain ⟨a, _, ha⟩ := List.mem_flatMap.1 (List.mem_of_mem_take hy)
 exact h1 a y ha
section
variable {P : Program} {w : World} {l : KL} {dst : Option Tmp} {ty : TypeId} {pos : String} {aft : Array Go.Edge} {gd : Option (Nat × Bool)} {K : Value → World → Prop}
variable {α : Type} {cs : α → List Value} {e k n m i j c by_ N : Nat} {z : Value} {A : Option Addr} {s : List α}
theorem Zls {x y : Operand} {t : TypeId} (ht : elB P t = some e) (hk : Ya P e = some k) (hb : Qo P e = some by_) (hz : Yw P e = some z) (hs : Ol cs e k w (.slice A s.length c) s) (hc : ∀ x, (cs x).length = k) (h1 : ∀ x, ∀ y ∈ cs x, y.oneCell' = true)
   (hij : i ≤ j) (hj : j ≤ s.length) (h0 : 0 < s.length) (hN : i + (s.length - j) = N) (hx : ev l x = some (cutV (.slice A s.length c) k 0 i)) (hy : ev l y = some (cutV (.slice A s.length c) k j s.length))
   (kk : ∀ w', Ol cs e k w' (.slice A s.length c) (s.take i ++ s.drop j ++ s.drop N) → Ch (bl (.slice A s.length c)) w w' → K (.slice A N c) w') :
   Step P l ⟨dst, .call { callee := .builtin .append, args := #[x, y], argTypes := #[t, t] }, ty, pos, aft, gd⟩ w K := by
 subst hN
 obtain ⟨inf, hi, hiz, his, hib⟩ := Zgy hk hb hz
 have hel := Zab ht
 have hle := Ow.lec hs
 rw [Zdk hs h0] at hx
 have hsl := Ow.cutSl hs hj (Nat.le_refl s.length)
 obtain ⟨g, off, rfl⟩ := Ow.some hs h0
 obtain ⟨hl, ⟨_, h2⟩ | ⟨g', off', cap, cur, hv, hg, hn, hm, hf, htk⟩⟩ := hs
 ·omega
 injection hv with hv _ h3
 injection hv with hv; injection hv with hv1 hv2
 subst hv1 hv2 h3
 subst his
 obtain ⟨hyl, B, d, hB, hmc, hcm, hBA⟩ := hsl
 have hds : (((s.flatMap cs).drop (j * inf.size)).take ((s.length - j) * inf.size)) = (s.drop j).flatMap cs := by rw [Zdj hc, Zds hl]
 rw [hds] at hyl hBA
 have hjl : i * inf.size + (s.length - j) * inf.size ≤ s.length * inf.size := by rw [← Nat.add_mul]; exact Nat.mul_le_mul_right _ (by omega)
 have hcl : s.length * inf.size ≤ c * inf.size := Nat.mul_le_mul_right _ hle
 have hb2 : ∃ ad, B = some ad ∧ ∀ q u, ((s.drop j).flatMap cs)[q]? = some u → w.cell? (ad.add q) = some u := by
  rcases Nat.eq_zero_or_pos (s.length - j) with h | h
  ·simp only [cutV, sliced, Option.map_some] at hB
   injection hB with hB _ _
   refine ⟨if c = j then ⟨g, off, none⟩ else (⟨g, off, none⟩ : Addr).add (j * inf.size), by rw [← hB]; by_cases h9 : c = j <;> simp [h9], fun q u hu => ?_⟩
   rw [List.drop_of_length_le (by omega)] at hu
   simp at hu
  obtain ⟨ad, h5, h6⟩ := hBA h
  exact ⟨ad, h5, h6.2⟩
 obtain ⟨ad, rfl, had⟩ := hb2
 rw [hB] at hy
 have hr := Zbv (P := P) (w := w) (t := t) (ty := ty) (c := d) (off := off) (n := i) (m := s.length - j) (cap := c) (news := (s.drop j).flatMap cs) hel hi hg hyl had (fun y hy => by obtain ⟨a, _, ha⟩ := List.mem_flatMap.1 hy; exact h1 a y ha) (by omega) (by omega)
 refine Step.of (v := .slice (some ⟨g, off, none⟩) (i + (s.length - j)) c) (w' := w.setRow g (cur.toList.take (off + i * inf.size) ++ (s.drop j).flatMap cs ++ cur.toList.drop (off + i * inf.size + ((s.drop j).flatMap cs).length)).toArray) (fun ρ hρ => ?_) (kk _ ?_ (Ch.setRow w g _))
 ·unfold execOp
  simp only [resolve, invoke, builtin, Sem.run_bind, Sem.run_pure, Result.andThen_ok, List.map_toArray, List.map_cons, List.map_nil, hρ _ _ hx, hρ _ _ hy, hr]
 have hlen : (s.take i ++ s.drop j ++ s.drop (i + (s.length - j))).length = s.length := by simp only [List.length_append, List.length_take, List.length_drop]; omega
 refine ⟨by rw [flat_len hc], .inr ⟨g, off, c, _, by rw [hlen], Zaf hg, by omega, hm, ?_, ?_⟩⟩
 ·simp only [List.size_toArray, List.length_append, List.length_take, List.length_drop, Array.length_toList, hyl]; omega
 have hcl2 : cur.toList.length = cur.size := Array.length_toList
 have := Zfm cur.toList ((s.drop j).flatMap cs) off (i * inf.size) (s.length * inf.size) (by omega) (by rw [hyl]; exact hjl)
 rw [hlen, List.flatMap_append, List.flatMap_append, Zdo hc, Zdj hc s (i + (s.length - j)), ← htk]
 refine this.trans ?_
 rw [hyl, ← Nat.add_mul]
theorem Ol.short {X : List α} (h : Ol cs e k w (.slice A n c) X) (hn : X.length = n) (h0 : 0 < n) (hm : m ≤ n) (hc : ∀ x, (cs x).length = k) : Ol cs e k w (.slice A m c) (X.take m) := by
 subst hn
 have h2 := h.cut hc (Nat.zero_le m) hm
 rw [Zdk h h0] at h2
 simpa using h2
theorem Zlo (hij : i < s.length) (hN : N + 1 = s.length) : (s.take i ++ s.drop (i + 1) ++ s.drop N).length = s.length := by simp only [List.length_append, List.length_take, List.length_drop]; omega
theorem Zkg (Z : List α) (hij : i < s.length) (hN : N + 1 = s.length) : ((s.take i ++ s.drop (i + 1) ++ s.drop N).take N ++ Z).take N = s.take i ++ s.drop (i + 1) := by
 have h1 : (s.take i ++ s.drop (i + 1)).length = N := by simp only [List.length_append, List.length_take, List.length_drop]; omega
 have h2 : (s.take i ++ s.drop (i + 1) ++ s.drop N).take N = s.take i ++ s.drop (i + 1) := by rw [← h1, List.take_left]
 rw [h2, ← h1, List.take_left]
end
theorem Zfi {V : List Int} {E : List GEdge} {l : List Chg} {m : Nat} (hv : Xn V E) (hm : l.length ≤ m) : apE V E l m = (apL V E l).getD E ∧ tt (ApOk V E l m) = (apL V E l).isSome := by
 cases h : apL V E l with
 | some F => exact ap_y hv hm h
 | none => exact ap_n (Zbd h)
noncomputable def abg (G : List GD) (C : List Chg) : GD := match G[G.length - 1]? with
 | some z => ⟨z.V, apE z.V z.E C 6⟩
 | none => ⟨[], []⟩
def AbOk (F : Int) (G : List GD) (C : List Chg) : Prop := (Xw F G ∧ ¬ lvR F G = 999) ∧ ∃ z, G[G.length - 1]? = some z ∧ ApOk z.V z.E C 6
noncomputable def abG (F : Int) (G : List GD) (C : List Chg) : List GD := bif tt (AbOk F G C) then (if 8 < G.length + 1 then (G ++ [abg G C]).drop 1 else G ++ [abg G C]) else G
noncomputable def abF (F : Int) (G : List GD) (C : List Chg) : Int := bif tt (AbOk F G C) then (if 8 < G.length + 1 then F + 1 else F) else F
section
variable {F : Int} {G : List GD} {C : List Chg} {z : GD} {i : Nat}
theorem Xl (h : ¬ lvR F G = 0) : Xw F G := Classical.byContradiction fun q => h (lv_n q).symm
theorem Qr (h : lvR F G = 0) : ¬ Xw F G := fun q => by have := lv_y q; have h1 := q.2.1; have h2 := q.2.2; omega
theorem Qy (h : ¬ Xw F G) : ¬ AbOk F G C := fun q => h q.1.1
theorem Qz (h : lvR F G = 999) : ¬ AbOk F G C := fun q => q.1.2 h
theorem ab_a (hz : G[G.length - 1]? = some z) (h : ¬ ApOk z.V z.E C 6) : ¬ AbOk F G C := fun q => by
 obtain ⟨y, hy, h2⟩ := q.2
 rw [hz] at hy; injection hy with hy; subst hy
 exact h h2
theorem Yp (h1 : Xw F G) (h2 : ¬ lvR F G = 999) (hz : G[G.length - 1]? = some z) (h : ApOk z.V z.E C 6) : AbOk F G C := ⟨⟨h1, h2⟩, z, hz, h⟩
theorem Yo (h : ¬ AbOk F G C) : G = abG F G C ∧ F = abF F G C ∧ false = tt (AbOk F G C) := by
 unfold abG abF; rw [← Zu h]; exact ⟨rfl, rfl, rfl⟩
theorem Xk (h : AbOk F G C) (hz : G[G.length - 1]? = some z) (h8 : 8 < G.length + 1) : (G ++ [(⟨z.V, apE z.V z.E C 6⟩ : GD)]).drop 1 = abG F G C ∧ F + 1 = abF F G C ∧ true = tt (AbOk F G C) := by
 unfold abG abF abg; rw [← Xt h, if_pos h8, if_pos h8, hz]; exact ⟨rfl, rfl, rfl⟩
theorem Xj (h : AbOk F G C) (hz : G[G.length - 1]? = some z) (h8 : ¬ 8 < G.length + 1) : G ++ [(⟨z.V, apE z.V z.E C 6⟩ : GD)] = abG F G C ∧ F = abF F G C ∧ true = tt (AbOk F G C) := by
 unfold abG abF abg; rw [← Xt h, if_neg h8, if_neg h8, hz]; exact ⟨rfl, rfl, rfl⟩
end
theorem Zka {V : List Int} {E F : List GEdge} {c : Chg} (h : Zbp V E c = some F) : F.length ≤ E.length + 1 := by
 unfold Zbp at h
 have h1 := Zew V E c.edge
 have h2 := Zev V E c.eid
 cases hi : c.ins <;> rw [hi] at h
 ·cases hm : decide (c.edge ∈ E) <;> rw [hm] at h
  ·cases h
  cases hd : (delR V E c.eid).2 <;> rw [hd] at h
  ·cases h
  injection h with h; subst h; omega
 cases hd : (insR V E c.edge).2 <;> rw [hd] at h
 ·cases h
 injection h with h; subst h; exact h1
theorem Ziy {V : List Int} : ∀ (l : List Chg) (E F : List GEdge), apL V E l = some F → F.length ≤ E.length + l.length
 | [], E, F, h => by
  have h : some E = some F := h
  injection h with h; subst h; simp
 | c :: l, E, F, h => by
  unfold apL at h
  rw [List.foldlM_cons] at h
  cases hs : Zbp V E c with
  | none => rw [hs] at h; cases h
  | some E' =>
   rw [hs] at h
   have h1 := Zka hs
   have h2 := Ziy l E' F h
   rw [List.length_cons]; omega
section
open Go.ChangeShapes Go.WideShapes Go.ChangeAt Go.RowKit Go.Deep Go.Joins
variable {H : Type} {enc : TypeId × Value → H} {P : Program} {w : World} {base : Nat} {spare : Nat → Bool} {held : Bool}
end
end Go.KLib

namespace Go.KLib
def LtE (a b : GEdge) : Prop := a.id < b.id
theorem Zcg {n : Int} {E : List GEdge} : Zco n E E.length ↔ (∀ e ∈ E, Xq n e) ∧ E.Pairwise LtE := by
 constructor
 ·intro h
  refine ⟨fun e he => ?_, ?_⟩
  ·obtain ⟨i, hi, rfl⟩ := List.mem_iff_getElem.1 he
   exact (h i _ hi (List.getElem?_eq_getElem hi)).1
  rw [List.pairwise_iff_getElem]
  have key : ∀ (d i : Nat) (h1 : i + d + 1 < E.length), LtE (E[i]'(by omega)) (E[i + d + 1]'h1) := by
   intro d
   induction d with
   | zero => intro i h1; exact (h (i + 1) _ h1 (List.getElem?_eq_getElem h1)).2 _ (by omega) (by rw [Nat.add_sub_cancel]; exact List.getElem?_eq_getElem (by omega))
   | succ d ih =>
    intro i h1
    have a := ih i (by omega)
    have b := (h (i + (d + 1) + 1) _ h1 (List.getElem?_eq_getElem h1)).2 (E[i + d + 1]'(by omega)) (by omega) (by rw [Nat.add_sub_cancel]; exact List.getElem?_eq_getElem (by omega))
    unfold LtE at *; omega
  intro i j hi hj hij
  have := key (j - i - 1) i (by omega)
  simpa [show i + (j - i - 1) + 1 = j by omega] using this
 rintro ⟨h1, h2⟩ i e hi he
 have ee := (List.getElem?_eq_some_iff.1 he).2
 refine ⟨h1 e (Qf he), fun d h0 hd => ?_⟩
 obtain ⟨hd1, hd2⟩ := List.getElem?_eq_some_iff.1 hd
 have := (List.pairwise_iff_getElem.1 h2) (i - 1) i hd1 hi (by omega)
 rw [hd2, ee] at this; exact this
theorem Zkn {α : Type} {p : α → Bool} : ∀ {l : List α} {x : α}, x ∈ l.takeWhile p → p x = true
 | a :: l, x, h => by
  rw [List.takeWhile_cons] at h
  split at h
  ·rename_i hp
   rcases List.mem_cons.1 h with h | h
   ·rw [h]; exact hp
   exact Zkn h
  cases h
theorem Ziz {α : Type} {p : α → Bool} : ∀ {l : List α} {x : α} {t : List α}, l.dropWhile p = x :: t → p x = false
 | a :: l, x, t, h => by
  rw [List.dropWhile_cons] at h
  split at h
  ·exact Ziz h
  rename_i hp
  injection h with h1 _
  rw [← h1]; simpa using hp
theorem Zfb {α : Type} {a b l : List α} (h : a ++ b = l) : l.take a.length = a ∧ l.drop a.length = b := by subst h; exact ⟨List.take_left, List.drop_left⟩
section
variable {V : List Int} {E F : List GEdge} {e : GEdge} {c : Chg} {l : List Chg} {m i : Nat}
theorem Zlc {id : Int} (h : eiR E id < 0) : ∀ x ∈ E, x.id ≠ id := fun x hx he => by
 have := Zmm h x hx
 simp [he] at this
theorem Zjq (h : Zhu V E e) : Xn V (insL E e) := by
 obtain ⟨hv, he, hn, hl⟩ := h
 obtain ⟨h1, h2, h3, h4⟩ := hv
 obtain ⟨ha, hb⟩ := Zcg.1 h2
 have hs : E.takeWhile (fun x => decide (x.id < e.id)) ++ E.dropWhile (fun x => decide (x.id < e.id)) = E := List.takeWhile_append_dropWhile
 have e1 : E.take (insK E e.id) = E.takeWhile (fun x => decide (x.id < e.id)) := (Zfb hs).1
 have e2 : E.drop (insK E e.id) = E.dropWhile (fun x => decide (x.id < e.id)) := (Zfb hs).2
 have hlo : ∀ x ∈ E.take (insK E e.id), LtE x e := fun x hx => by
  rw [e1] at hx; have := Zkn hx; unfold LtE; simpa using this
 have hhi : ∀ x ∈ E.drop (insK E e.id), LtE e x := fun x hx => by
  have hne := Zlc hn x (List.mem_of_mem_drop hx)
  have hp : (E.drop (insK E e.id)).Pairwise LtE := hb.sublist (List.drop_sublist _ _)
  rw [e2] at hx hp
  cases hd : E.dropWhile (fun x => decide (x.id < e.id)) with
  | nil => rw [hd] at hx; cases hx
  | cons y t =>
   have hy := Ziz hd
   rw [hd] at hx hp
   have hy2 : ¬ y.id < e.id := by simpa using hy
   unfold LtE at *
   rcases List.mem_cons.1 hx with q | q
   ·rw [q] at hne ⊢; omega
   have := (List.pairwise_cons.1 hp).1 x q; omega
 refine ⟨h1, Zcg.2 ⟨fun x hx => ?_, ?_⟩, h3, ?_⟩
 ·unfold insL at hx
  rcases List.mem_append.1 hx with q | q
  ·rcases List.mem_append.1 q with q | q
   ·exact ha x (List.mem_of_mem_take q)
   rw [List.mem_singleton.1 q]; exact he
  exact ha x (List.mem_of_mem_drop q)
 ·unfold insL
  rw [List.append_assoc, List.pairwise_append]
  refine ⟨hb.sublist (List.take_sublist _ _), List.pairwise_cons.2 ⟨hhi, hb.sublist (List.drop_sublist _ _)⟩, fun a q b r => ?_⟩
  rcases List.mem_cons.1 r with r | r
  ·rw [r]; exact hlo a q
  have x1 := hlo a q; have x2 := hhi b r; unfold LtE at *; omega
 unfold insL; simp only [List.length_append, List.length_take, List.length_drop, List.length_singleton]; omega
theorem Zjr (h : Xn V E) : Xn V (E.take i ++ E.drop (i + 1)) := by
 obtain ⟨h1, h2, h3, h4⟩ := h
 obtain ⟨ha, hb⟩ := Zcg.1 h2
 have hs : (E.take i ++ E.drop (i + 1)).Sublist E := by rw [← List.eraseIdx_eq_take_drop_succ]; exact List.eraseIdx_sublist _ _
 exact ⟨h1, Zcg.2 ⟨fun x hx => ha x (hs.subset hx), hb.sublist hs⟩, h3, Nat.le_trans hs.length_le h4⟩
theorem Zhz (hv : Xn V E) (h : Zbp V E c = some F) : Xn V F := by
 unfold Zbp at h
 cases hi : c.ins <;> rw [hi] at h
 ·cases hm : decide (c.edge ∈ E) <;> rw [hm] at h
  ·cases h
  cases hd : (delR V E c.eid).2 <;> rw [hd] at h
  ·cases h
  injection h with h; subst h
  by_cases q : Xn V E ∧ 0 ≤ eiR E c.eid
  ·rw [Zbw q]; exact Zjr hv
  rw [Zbs q]; exact hv
 cases hd : (insR V E c.edge).2 <;> rw [hd] at h
 ·cases h
 injection h with h; subst h
 by_cases q : Zhu V E c.edge
 ·rw [Xs q]; exact Zjq q
 rw [Xu q]; exact hv
theorem Zgk : ∀ (l : List Chg) (E F : List GEdge), Xn V E → apL V E l = some F → Xn V F
 | [], E, F, hv, h => by
  have h : some E = some F := h
  injection h with h; subst h; exact hv
 | c :: l, E, F, hv, h => by
  unfold apL at h
  rw [List.foldlM_cons] at h
  cases hs : Zbp V E c with
  | none => rw [hs] at h; cases h
  | some E' => rw [hs] at h; exact Zgk l E' F (Zhz hv hs) h
theorem Zjn (h : ApOk V E l m) : Xn V (apE V E l m) := by
 obtain ⟨hv, hm, hs⟩ := h
 obtain ⟨F, hF⟩ := Option.isSome_iff_exists.1 hs
 rw [(ap_y hv hm hF).1]
 exact Zgk l E F hv hF
end
section
variable {F : Int} {G H : List GD} {C : List Chg} {x z : GD} {n v : Int}
theorem Zdh : Zdx G G.length ↔ (∀ x ∈ G, Xn x.V x.E) ∧ ∀ x ∈ G, ∀ y ∈ G, x.V = y.V := by
 constructor
 ·intro h
  have h0 : ∀ x ∈ G, ∃ z, G[0]? = some z := fun x hx => ⟨G[0]'(List.length_pos_of_mem hx), List.getElem?_eq_getElem _⟩
  have h1 : ∀ x ∈ G, ∀ z, G[0]? = some z → Xn x.V x.E ∧ x.V = z.V := fun x hx z hz => by
   obtain ⟨i, hi, rfl⟩ := List.mem_iff_getElem.1 hx
   exact h i _ z hi (List.getElem?_eq_getElem hi) hz
  refine ⟨fun x hx => ?_, fun x hx y hy => ?_⟩
  ·obtain ⟨z, hz⟩ := h0 x hx; exact (h1 x hx z hz).1
  obtain ⟨z, hz⟩ := h0 x hx; rw [(h1 x hx z hz).2, (h1 y hy z hz).2]
 rintro ⟨h1, h2⟩ i x z hi hx hz
 exact ⟨h1 x (Qf hx), h2 x (Qf hx) z (Qf hz)⟩
theorem Zhj (h : Zdx G G.length) (hs : ∀ x ∈ H, x ∈ G) : Zdx H H.length := by
 obtain ⟨h1, h2⟩ := Zdh.1 h
 exact Zdh.2 ⟨fun x hx => h1 x (hs x hx), fun x hx y hy => h2 x (hs x hx) y (hs y hy)⟩
theorem Zjp (h : Zdx G G.length) (hz : z ∈ G) (hv : Xn x.V x.E) (he : x.V = z.V) : Zdx (G ++ [x]) (G ++ [x]).length := by
 obtain ⟨h1, h2⟩ := Zdh.1 h
 have hm : ∀ y ∈ G ++ [x], Xn y.V y.E ∧ y.V = z.V := fun y hy => by
  rcases List.mem_append.1 hy with q | q
  ·exact ⟨h1 y q, h2 y q z hz⟩
  rw [List.mem_singleton.1 q]; exact ⟨hv, he⟩
 exact Zdh.2 ⟨fun y hy => (hm y hy).1, fun a ha b hb => by rw [(hm a ha).2, (hm b hb).2]⟩
theorem Zbq (h : Xw F G) : Xw (abF F G C) (abG F G C) := by
 by_cases q : AbOk F G C
 ·obtain ⟨⟨_, h9⟩, z, hz, ha⟩ := id q
  have hl := Zbo h
  obtain ⟨hs, hlen, hF⟩ := h
  have hsn := Zjp (x := ⟨z.V, apE z.V z.E C 6⟩) hs (Qf hz) (Zjn ha) rfl
  by_cases h8 : 8 < G.length + 1
  ·rw [← (Xk q hz h8).1, ← (Xk q hz h8).2.1]
   have hlen2 : ((G ++ [(⟨z.V, apE z.V z.E C 6⟩ : GD)]).drop 1).length = G.length := by simp
   exact ⟨Zhj hsn fun x hx => List.mem_of_mem_drop hx, by rw [hlen2]; exact hlen, by rw [hlen2]; omega⟩
  rw [← (Xj q hz h8).1, ← (Xj q hz h8).2.1]
  have hlen2 : (G ++ [(⟨z.V, apE z.V z.E C 6⟩ : GD)]).length = G.length + 1 := by simp
  exact ⟨hsn, by rw [hlen2]; omega, by rw [hlen2]; omega⟩
 rw [← (Yo q).1, ← (Yo q).2.1]; exact h
theorem Zjs (q : AbOk F G C) (hz : G[G.length - 1]? = some z) : gaP (abF F G C) (abG F G C) (lvR (abF F G C) (abG F G C)) ∧ (⟨z.V, apE z.V z.E C 6⟩ : GD) = gaR (abF F G C) (abG F G C) (lvR (abF F G C) (abG F G C)) ∧ lvR (abF F G C) (abG F G C) = lvR F G + 1 := by
 have hv := q.1.1
 have hv2 := Zbq (C := C) hv
 have l1 := Zbo hv
 have l2 := Zbo hv2
 have hr : abF F G C ≤ lvR (abF F G C) (abG F G C) ∧ lvR (abF F G C) (abG F G C) ≤ lvR (abF F G C) (abG F G C) := ⟨by have := hv2.2.1; omega, Int.le_refl _⟩
 have hg : (abG F G C)[(lvR (abF F G C) (abG F G C) - abF F G C).toNat]? = some (⟨z.V, apE z.V z.E C 6⟩ : GD) ∧ lvR (abF F G C) (abG F G C) = lvR F G + 1 := by
  rw [l2, l1]
  by_cases h8 : 8 < G.length + 1
  ·rw [← (Xk q hz h8).1, ← (Xk q hz h8).2.1]
   have hlen2 : ((G ++ [(⟨z.V, apE z.V z.E C 6⟩ : GD)]).drop 1).length = G.length := by simp
   rw [hlen2, List.getElem?_drop, show 1 + (F + 1 + (G.length : Int) - 1 - (F + 1)).toNat = G.length by omega]
   exact ⟨by simp, by omega⟩
  rw [← (Xj q hz h8).1, ← (Xj q hz h8).2.1]
  have hlen2 : (G ++ [(⟨z.V, apE z.V z.E C 6⟩ : GD)]).length = G.length + 1 := by simp
  rw [hlen2, show (F + ((G.length + 1 : Nat) : Int) - 1 - F).toNat = G.length by omega]
  exact ⟨by simp, by omega⟩
 exact ⟨⟨hv2, hr⟩, ga_y hv2 hr hg.1, hg.2⟩
theorem Zak (h : gaP F G n) : Xw (chF F G n) (chG F G n) ∧ lvR (chF F G n) (chG F G n) = lvR F G := by
 obtain ⟨hv, h1, h2⟩ := id h
 have l1 := Zbo hv
 rw [l1] at h2
 have hw : Xw n (G.drop (n - F).toNat) := by
  obtain ⟨hs, hlen, hF⟩ := hv
  exact ⟨Zhj hs fun x hx => List.mem_of_mem_drop hx, by rw [List.length_drop]; omega, by rw [List.length_drop]; omega⟩
 rw [← Zbz h, ← Zgu h]
 refine ⟨hw, ?_⟩
 rw [Zbo hw, l1, List.length_drop]
 have := hv.2.1; omega
theorem Zmt (h : gaP F G n) (h1 : chF F G n ≤ v) (h2 : v ≤ lvR (chF F G n) (chG F G n)) : gaR (chF F G n) (chG F G n) v = gaR F G v := by
 obtain ⟨hw, hl⟩ := Zak h
 have l1 := Zbo h.1
 have h3 := h.2.1
 rw [hl, l1] at h2
 have hx : ∃ x, G[(v - F).toNat]? = some x := ⟨G[(v - F).toNat]'(by rw [← Zbz h] at h1; have := h.1.2.1; omega), List.getElem?_eq_getElem _⟩
 obtain ⟨x, hx⟩ := hx
 have h1' := h1
 rw [← Zbz h] at h1'
 rw [← ga_y (x := x) hw ⟨h1, by rw [hl, l1]; exact h2⟩ (by rw [← Zbz h, ← Zgu h, List.getElem?_drop, show (n - F).toNat + (v - n).toNat = (v - F).toNat by omega]; exact hx), ← ga_y (x := x) h.1 ⟨by omega, by rw [l1]; exact h2⟩ hx]
end
theorem SepH.put {o : Value} {vs : List Gv} {i : Nat} {p : Gv} (h : SepH o vs) (h1 : ∀ g ∈ bl p.v.v, g ∉ bl o) (h2 : ∀ g ∈ bl p.e.v, g ∉ bl o) : SepH o (vs.set i p) := fun u hu => by
 rcases List.mem_or_eq_of_mem_set hu with q | q
 ·exact h u q
 rw [q]; exact ⟨h1, h2⟩
theorem OdG.put {e1 e2 lo hi hi' i : Nat} {w : World} {vs : List Gv} {xs : List GD} {y p : Gv} {z x : GD} (h : OdG e1 e2 w lo hi vs xs) (hy : vs[i]? = some y) (hz : xs[i]? = some z) (o1 : Ol ics e1 1 w p.v.v x.V) (o2 : Ol GEdge.cs e2 4 w p.e.v x.E) (l1 : Lo hi p.v.v) (l2 : Lo hi p.e.v) (u1 : ∀ g ∈ bl p.v.v, g < hi') (u2 : ∀ g ∈ bl p.e.v, g < hi') (hd : ∀ g ∈ bl p.v.v, g ∉ bl p.e.v) (hh : hi ≤ hi') (hlo : lo ≤ hi) : OdG e1 e2 w lo hi' (vs.set i p) (xs.set i x) := by
 refine ⟨by simp [h.1], ?_, ?_, fun u hu t ht g hg hm => ?_⟩
 ·rw [List.map_set, List.map_set]; exact h.2.1.put (Zcu (f := (·.v)) hy) (Zcu (f := (·.V)) hz) (Ch.refl [] w) (fun g hg => by cases hg) o1 (fun g hg => .inr ⟨l1 g hg, u1 g hg⟩) hh hlo
 ·rw [List.map_set, List.map_set]; exact h.2.2.1.put (Zcu (f := (·.e)) hy) (Zcu (f := (·.E)) hz) (Ch.refl [] w) (fun g hg => by cases hg) o2 (fun g hg => .inr ⟨l2 g hg, u2 g hg⟩) hh hlo
 rcases List.mem_or_eq_of_mem_set hu with q | q <;> rcases List.mem_or_eq_of_mem_set ht with r | r
 ·exact h.2.2.2 u q t r g hg hm
 ·rw [r] at hm; have a := ((h.rng q).1 g hg).2; have b := l2 g hm; omega
 ·rw [q] at hg; have a := ((h.rng r).2 g hm).2; have b := l1 g hg; omega
 rw [q] at hg; rw [r] at hm; exact hd g hg hm
def Zgc (n id : Int) (E : List GEdge) : Prop := (∀ e ∈ E, Xq n e ∧ e.id ≤ id) ∧ E.Pairwise LtE
theorem Zmn (n id : Int) : Zgc n id [] := ⟨fun e h => (by cases h), List.Pairwise.nil⟩
theorem Zah {n id : Int} {E : List GEdge} {e : GEdge} (h : Zgc n id E) (he : Xq n e) (hl : id < e.id) : Zgc n e.id (E ++ [e]) := by
 refine ⟨fun x hx => ?_, ?_⟩
 ·rcases List.mem_append.1 hx with q | q
  ·have := h.1 x q; exact ⟨this.1, by omega⟩
  rw [List.mem_singleton.1 q]; exact ⟨he, Int.le_refl _⟩
 rw [List.pairwise_append]
 refine ⟨h.2, List.pairwise_singleton .., fun a ha b hb => ?_⟩
 rw [List.mem_singleton.1 hb]; have := (h.1 a ha).2; unfold LtE; omega
theorem Zjy {V : List Int} {E : List GEdge} {id : Int} (hv : ∀ v ∈ V, 0 ≤ v ∧ v ≤ 2) (hl : 1 ≤ V.length ∧ V.length ≤ 5) (he : Zgc ((V.length : Int) - 1) id E) (h2 : E.length ≤ 12) : Xn V E :=
 ⟨fun i v _ hx => hv v (Qf hx), Zcg.2 ⟨fun e h => (he.1 e h).1, he.2⟩, hl, h2⟩
theorem Zfa {V : List Int} {v : Int} (h : ∀ v ∈ V, 0 ≤ v ∧ v ≤ 2) (hv : 0 ≤ v ∧ v ≤ 2) : ∀ u ∈ V ++ [v], 0 ≤ u ∧ u ≤ 2 := fun u hu => by
 rcases List.mem_append.1 hu with q | q
 ·exact h u q
 rw [List.mem_singleton.1 q]; exact hv
theorem Zki {V : List Int} {E : List GEdge} {n : Int} (h : Xn V E) (hn : 1 ≤ n ∧ n ≤ 999) : Xw n [⟨V, E⟩] := by
 exact ⟨Zdh.2 ⟨fun x hx => by rw [List.mem_singleton.1 hx]; exact h, fun x hx y hy => by rw [List.mem_singleton.1 hx, List.mem_singleton.1 hy]⟩, ⟨Nat.le_refl 1, by simp⟩, hn.1, by have := hn.2; simp; omega⟩
theorem Zhk : ∀ {G : List GD}, (∀ x ∈ G, x.V.length ≤ 5 ∧ x.E.length ≤ 12) → Zau G ≤ 17 * G.length
 | [], _ => by simp [Zau]
 | x :: G, h => by
  have h1 := Zhk (G := G) fun y hy => h y (List.mem_cons_of_mem _ hy)
  have h2 := h x (List.mem_cons_self ..)
  unfold Zau at *
  simp only [List.map_cons, List.sum_cons, List.length_cons]; omega
theorem Zai {F : Int} {G : List GD} (h : Xw F G) : (1 ≤ G.length ∧ G.length ≤ 8) ∧ Zau G ≤ 136 := by
 have h1 := Zhk (G := G) fun x hx => by
  obtain ⟨i, hi, rfl⟩ := List.mem_iff_getElem.1 hx
  exact Zcr h (List.getElem?_eq_getElem hi)
 have := h.2.1; exact ⟨this, by omega⟩
theorem Zgl : ∀ (G : List GD) (i : Nat) (x : GD), Zau (G.set i x) ≤ Zau G + (x.V.length + x.E.length)
 | [], _, _ => by simp [Zau]
 | y :: G, 0, x => by unfold Zau; simp only [List.set_cons_zero, List.map_cons, List.sum_cons]; omega
 | y :: G, i + 1, x => by
  have := Zgl G i x
  unfold Zau at *
  simp only [List.set_cons_succ, List.map_cons, List.sum_cons]; omega
theorem Zhc {F : Int} (h0 : 0 ≤ F) (h1 : F ≤ 1000) : ([] : List GD).length ≤ 8 ∧ Zau ([] : List GD) ≤ 200 ∧ 0 ≤ F ∧ F ≤ 1000 := ⟨Nat.zero_le _, Nat.zero_le _, h0, h1⟩
theorem Zhd {F : Int} {G : List GD} {i : Nat} {V : List Int} {E : List GEdge} (hs : (1 ≤ G.length ∧ G.length ≤ 8) ∧ Zau G ≤ 136) (h : V.length ≤ 5 ∧ E.length ≤ 13) (h0 : 0 ≤ F) (h1 : F ≤ 1000) : (G.set i ⟨V, E⟩).length ≤ 8 ∧ Zau (G.set i ⟨V, E⟩) ≤ 200 ∧ 0 ≤ F ∧ F ≤ 1000 := by
 have q := Zgl G i ⟨V, E⟩
 dsimp only at q
 rw [List.length_set]
 exact ⟨hs.1.2, by omega, h0, h1⟩
theorem Zln (V : List Int) (E : List GEdge) (l : List Chg) : ((apL V E l).getD E).length ≤ E.length + l.length := by
 cases h : apL V E l with
 | none => simp
 | some F => exact Ziy l E F h
theorem apD1 (V : List Int) (E : List GEdge) (c : Chg) : ((apL V E [c]).getD E).length ≤ E.length + 1 := Zln V E [c]
section
variable {P : Program} {l : KL} {dst : Option Tmp} {ty : TypeId} {pos : String} {aft : Array Go.Edge} {gd : Option (Nat × Bool)}
theorem Zlf {N : Nat} {ops : Array Oper} {Q : Po} {id : Nat} {w : World} (ws : List Nat) (n : Nat) {a : Addr} {v : Value} (hm : P.follows .mixedOrders = true) (hn : ops.size = n) (hv : w.cell? a = some v)
   (h : ∀ w1, Ch [] w w1 → DR P N ops Q (fun w' => Ch ws w1 w' ∧ w'.cell? a = some v) n (Array.replicate n false) l w1) : W P N (.region id ops true) Q l w := by
 subst hn
 exact Zkj (fun w' => Ch ws { w with drawn := w.drawn + 1 } w' ∧ w'.cell? a = some v) hm ⟨Ch.refl _ _, hv⟩ (h _ (Ch.refl [] w).drew)
theorem Tk.and {S X : World → Prop} {o : Oper} {G : Value → Prop} (h : Tk P S l o G) : Tk P (fun w => S w ∧ X w) l o G := let ⟨v, h1, h2⟩ := h; ⟨v, fun w hw => h1 w hw.1, h2⟩
theorem Zje {S : World → Prop} {G : Value → Prop} {a : Addr} {x : Operand} {t : TypeId} {v : Value} (ht : Yk P t = some false) (hx : ev l x = some (.pointer (some a))) (hG : G v) :
 Tk P (fun w => S w ∧ w.cell? a = some v) l ⟨dst, .load t x, ty, pos, aft, gd⟩ G := Tk.of (fun _ h => Zgv ht hx h.2) hG
end
end Go.KLib

namespace Go.KLib
open Go.Sort Go.RowKit Go.Shelf Go.Proofs
section
variable {s : List UInt8} {ts : List Token}
end
section
variable {s p : List UInt8} {n : Int}
end
end Go.KLib

namespace Go.KLib
open Go.Sort Go.RowKit Go.Shelf Go.Proofs
structure GS (P : Program) (gM : Nat) (w : World) : Prop where
 m : ∃ m, w.cell? ⟨gM, 0, none⟩ = some (.int .i64 m)
 e : ∃ tp p, w.var? P "strconv.ErrSyntax" = some #[.iface tp p]
 t : Lib.TabIs P w "internal/strconv.uint64pow10" .u64 Lib.pow10Tab
theorem Zkl {P : Program} {w w' : World} {n : String} {cs : Array Value} (h : w.var? P n = some cs) (c : Ch [] w w') : w'.var? P n = some cs := by
 unfold World.var? at h ⊢
 cases hg : P.globalNamed n with
 | none => simp [hg] at h
 | some g =>
  simp only [hg, Option.bind_some] at h ⊢
  have hlt : g < w.heap.size := by
   rcases Nat.lt_or_ge g w.heap.size with h' | h'
   ·exact h'
   simp [Array.getElem?_eq_none h'] at h
  rw [c.block g hlt (by simp)]; exact h
theorem GS.ch {P : Program} {gM : Nat} {w w' : World} (h : GS P gM w) (c : Ch [] w w') : GS P gM w' := by
 obtain ⟨⟨m, hm⟩, ⟨tp, p, he⟩, ht⟩ := h
 exact ⟨⟨m, c.cell hm (by simp)⟩, ⟨tp, p, Zkl he c⟩, Zkl ht c⟩
section
variable {P : Program} {ρ : Ren} {w : World} {s sep : List UInt8} {n : Int}
end
section
variable {P : Program} {w : World} {l : KL} {dst : Option Tmp} {ty : TypeId} {pos : String} {aft : Array Go.Edge} {gd : Option (Nat × Bool)} {x : Operand} {xt yt : TypeId} {e : Value} {b : Bool}
end
end Go.KLib
namespace Go
end Go

namespace Go.KLib
section
variable {e : List Token}
end
end Go.KLib

namespace Go.KLib
theorem om {P : Prop} (h : P := by omega) : P := h
theorem bd {P : Prop} (h : P := by first | omega | (simp only [List.length_append, List.length_nil, List.length_cons, List.length_replicate, List.length_set, List.length_reverse, List.length_map] at *; omega) | (simp at *; omega)) : P := h
section
variable {α : Type} {cs : α → List Value} {e k : Nat} {w : World} {v : Value} {xs : List α} {L B b c lo hi : Nat} {P : Nat → Prop}
theorem Ol.opn (h : Ol cs e k w v xs) : ∃ A C, v = .slice A xs.length C ∧ xs.length ≤ 9223372036854775807 ∧ ∀ g ∈ bl v, g < w.heap.size := by
 obtain ⟨A, C, e⟩ := h.val
 exact ⟨A, C, e, h.len, h.lt⟩
theorem nS (h : b ≠ c) : b ∉ [c] := fun q => h (List.mem_singleton.1 q)
theorem lS (h : lo ≤ b) : ∀ i ∈ [b], lo ≤ i ∨ P i := fun i q => .inl (by rw [List.mem_singleton.1 q]; exact h)
theorem oS (h : P b) : ∀ i ∈ [b], P i := fun i q => by rw [List.mem_singleton.1 q]; exact h
theorem dS (h1 : Lo lo v) (h2 : ∀ g ∈ bl v, g < hi) (h : b < lo ∨ hi ≤ b) : ∀ g ∈ bl v, g ∉ [b] := fun g hg hm => by
 have q := List.mem_singleton.1 hm
 have a := h1 g hg
 have z := h2 g hg
 omega
end
section
variable {P : Program} {N : Nat} {ops : Array Oper} {Q : Po} {l : KL} {w : World} {o : Oper} {S : World → Prop} {fuel : Nat} {listed : Array Bool} {v : Value}
theorem dT (i : Nat) (hi : ops[i]? = some o) (hd : dOk N o.dst = true) (hg : Zep ops l o = some true) (h : Tk P S l o fun v => DR P N ops Q S fuel (listed.setIfInBounds i true) (pu l o.dst v) w) (hk : Zei ops listed i = true := by kernel_rfl) : DR P N ops Q S (fuel + 1) listed l w := DR_s i hi hk hd hg h
theorem dV (i : Nat) (hi : ops[i]? = some o) (hd : dOk N o.dst = true) (hg : Zep ops l o = some true) (hv : ∀ w, Qe P l o w v w) (h : DR P N ops Q S fuel (listed.setIfInBounds i true) (pu l o.dst v) w) (hk : Zei ops listed i = true := by kernel_rfl) : DR P N ops Q S (fuel + 1) listed l w := DR_s i hi hk hd hg (t_v hv h)
theorem dK (i : Nat) (hi : ops[i]? = some o) (hd : dOk N o.dst = true) (hg : Zep ops l o = some false) (h : DR P N ops Q S fuel (listed.setIfInBounds i true) (pu l o.dst undef) w) (hk : Zei ops listed i = true := by kernel_rfl) : DR P N ops Q S (fuel + 1) listed l w := Zlg i hi hk hd hg h
theorem dO (i : Nat) (h : DO P N ops Q S fuel listed i l w) (hr : Region.ready .any ops listed = [i] := by kernel_rfl) : DR P N ops Q S (fuel + 1) listed l w := Zms i hr h
end
section
variable {l l9 : KL}
theorem sC1 {t0 : Nat} {v0 : Value} (h0 : look l9 t0 = some v0) (h : Sub l l9) : Sub ((t0, v0) :: l) l9 := (Sub.cons h0 h)
theorem sC2 {t0 t1 : Nat} {v0 v1 : Value} (h0 : look l9 t0 = some v0) (h1 : look l9 t1 = some v1) (h : Sub l l9) : Sub ((t0, v0) :: (t1, v1) :: l) l9 := (Sub.cons h0 (Sub.cons h1 h))
theorem sC4 {t0 t1 t2 t3 : Nat} {v0 v1 v2 v3 : Value} (h0 : look l9 t0 = some v0) (h1 : look l9 t1 = some v1) (h2 : look l9 t2 = some v2) (h3 : look l9 t3 = some v3) (h : Sub l l9) : Sub ((t0, v0) :: (t1, v1) :: (t2, v2) :: (t3, v3) :: l) l9 := (Sub.cons h0 (Sub.cons h1 (Sub.cons h2 (Sub.cons h3 h))))
theorem sC8 {t0 t1 t2 t3 t4 t5 t6 t7 : Nat} {v0 v1 v2 v3 v4 v5 v6 v7 : Value} (h0 : look l9 t0 = some v0) (h1 : look l9 t1 = some v1) (h2 : look l9 t2 = some v2) (h3 : look l9 t3 = some v3) (h4 : look l9 t4 = some v4) (h5 : look l9 t5 = some v5) (h6 : look l9 t6 = some v6) (h7 : look l9 t7 = some v7) (h : Sub l l9) : Sub ((t0, v0) :: (t1, v1) :: (t2, v2) :: (t3, v3) :: (t4, v4) :: (t5, v5) :: (t6, v6) :: (t7, v7) :: l) l9 := (Sub.cons h0 (Sub.cons h1 (Sub.cons h2 (Sub.cons h3 (Sub.cons h4 (Sub.cons h5 (Sub.cons h6 (Sub.cons h7 h))))))))
end
end Go.KLib

