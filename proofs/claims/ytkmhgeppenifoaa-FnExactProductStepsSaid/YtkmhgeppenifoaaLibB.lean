/- The library of this proof: a logic of the code's forms, memory, data, and plain laws. It speaks of no program. -/
import Derived.WalkKit
import Derived.OrdersHeld
import Derived.WalkLawsBesides
import Derived.WalkSpells
import Derived.ProofKit
import Derived.Deep.Slices
import Derived.Deep.Fields
import Derived.Lib.SmallJoins
import Derived.Laws.Append
import Derived.Laws.CopyRow
import Derived.Laws.AppendOwn
import Derived.Laws.Small
import Derived.Shelf.Sort.Plain
import Derived.Shelf.Slices.CompactI
import Derived.Shelf.Slices.Delete
import Derived.Ground.NamesProg
import Derived.Ground.Names2Prog
import Derived.Shelf.Lay
import Derived.Shelf.Slices.In.SortNone
import Derived.MapKept
import Derived.Ground.SlsfProg
import Derived.Shelf.SlSortCmp.NoneTotal
import Derived.Laws.BytesString
import Derived.Laws.Strings2
import Derived.Laws.Concat
import Derived.Test.YtkmhgeppenifoaaLibA

namespace Go.KLib
theorem om {P : Prop} (h : P := by omega) : P := h
section
variable {α : Type} {cs : α → List Value} {e k : Nat} {w : World} {v : Value} {xs : List α} {L B b c lo hi : Nat} {P : Nat → Prop}
theorem Ol.opn (h : Ol cs e k w v xs) : ∃ A C, v = .slice A xs.length C ∧ xs.length ≤ 9223372036854775807 ∧ ∀ g ∈ bl v, g < w.heap.size := by
 obtain ⟨A, C, e⟩ := h.val
 exact ⟨A, C, e, h.len, h.lt⟩
theorem nS (h : b ≠ c) : b ∉ [c] := fun q => h (List.mem_singleton.1 q)
theorem lS (h : lo ≤ b) : ∀ i ∈ [b], lo ≤ i ∨ P i := fun i q => .inl (by rw [List.mem_singleton.1 q]; exact h)
theorem oS (h : P b) : ∀ i ∈ [b], P i := fun i q => by rw [List.mem_singleton.1 q]; exact h
theorem dS (h1 : Lo lo v) (h2 : ∀ g ∈ bl v, g < hi) (h : b < lo ∨ hi ≤ b) : ∀ g ∈ bl v, g ∉ [b] := fun g hg hm => by
 have q := List.mem_singleton.1 hm
 have a := h1 g hg
 have z := h2 g hg
 omega
end
section
variable {P : Program} {N : Nat} {ops : Array Oper} {Q : Po} {l : KL} {w : World} {o : Oper} {S : World → Prop} {fuel : Nat} {listed : Array Bool} {v : Value}
theorem dT (i : Nat) (hi : ops[i]? = some o) (hd : dOk N o.dst = true) (hg : Zdc ops l o = some true) (h : Tk P S l o fun v => DR P N ops Q S fuel (listed.setIfInBounds i true) (pu l o.dst v) w) (hk : Zcz ops listed i = true := by kernel_rfl) : DR P N ops Q S (fuel + 1) listed l w := DR_s i hi hk hd hg h
theorem dV (i : Nat) (hi : ops[i]? = some o) (hd : dOk N o.dst = true) (hg : Zdc ops l o = some true) (hv : ∀ w, Qd P l o w v w) (h : DR P N ops Q S fuel (listed.setIfInBounds i true) (pu l o.dst v) w) (hk : Zcz ops listed i = true := by kernel_rfl) : DR P N ops Q S (fuel + 1) listed l w := DR_s i hi hk hd hg (t_v hv h)
theorem dK (i : Nat) (hi : ops[i]? = some o) (hd : dOk N o.dst = true) (hg : Zdc ops l o = some false) (h : DR P N ops Q S fuel (listed.setIfInBounds i true) (pu l o.dst undef) w) (hk : Zcz ops listed i = true := by kernel_rfl) : DR P N ops Q S (fuel + 1) listed l w := Zll i hi hk hd hg h
theorem dO (i : Nat) (h : DO P N ops Q S fuel listed i l w) (hr : Region.ready .any ops listed = [i] := by kernel_rfl) : DR P N ops Q S (fuel + 1) listed l w := Zmn i hr h
end
section
variable {l l9 : KL}
theorem sC1 {t0 : Nat} {v0 : Value} (h0 : Qy l9 t0 = some v0) (h : Sub l l9) : Sub ((t0, v0) :: l) l9 := (Sub.cons h0 h)
theorem sC2 {t0 t1 : Nat} {v0 v1 : Value} (h0 : Qy l9 t0 = some v0) (h1 : Qy l9 t1 = some v1) (h : Sub l l9) : Sub ((t0, v0) :: (t1, v1) :: l) l9 := (Sub.cons h0 (Sub.cons h1 h))
theorem sC4 {t0 t1 t2 t3 : Nat} {v0 v1 v2 v3 : Value} (h0 : Qy l9 t0 = some v0) (h1 : Qy l9 t1 = some v1) (h2 : Qy l9 t2 = some v2) (h3 : Qy l9 t3 = some v3) (h : Sub l l9) : Sub ((t0, v0) :: (t1, v1) :: (t2, v2) :: (t3, v3) :: l) l9 := (Sub.cons h0 (Sub.cons h1 (Sub.cons h2 (Sub.cons h3 h))))
theorem sC8 {t0 t1 t2 t3 t4 t5 t6 t7 : Nat} {v0 v1 v2 v3 v4 v5 v6 v7 : Value} (h0 : Qy l9 t0 = some v0) (h1 : Qy l9 t1 = some v1) (h2 : Qy l9 t2 = some v2) (h3 : Qy l9 t3 = some v3) (h4 : Qy l9 t4 = some v4) (h5 : Qy l9 t5 = some v5) (h6 : Qy l9 t6 = some v6) (h7 : Qy l9 t7 = some v7) (h : Sub l l9) : Sub ((t0, v0) :: (t1, v1) :: (t2, v2) :: (t3, v3) :: (t4, v4) :: (t5, v5) :: (t6, v6) :: (t7, v7) :: l) l9 := (Sub.cons h0 (Sub.cons h1 (Sub.cons h2 (Sub.cons h3 (Sub.cons h4 (Sub.cons h5 (Sub.cons h6 (Sub.cons h7 h))))))))
end
end Go.KLib

