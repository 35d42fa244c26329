/- Values, objects and how they are told of a world. -/
import Derived.Below
import Derived.Deep.MidRow
import Derived.Maps.AppendAt
import Derived.Lib.ConvBytes
import Derived.Laws.BytesArg
import Derived.Laws.MakeOwn
import Derived.Laws.Slices
import Derived.Calls
import Derived.Lib.Builder
import Derived.Lib.UnsafeStr
namespace Go.Pv
open Go.RowKit

theorem hpNew (w : World) (o : Obj) : (w.alloc o).heap[w.heap.size]? = some o := by
  show (w.heap.push o)[w.heap.size]? = _
  simp
theorem hpOld (w : World) (o : Obj) (r : Nat) (h : r < w.heap.size) : (w.alloc o).heap[r]? = w.heap[r]? := by
  show (w.heap.push o)[r]? = _
  rw [Array.getElem?_push_lt h, Array.getElem?_eq_getElem h]

/-! ### Trees by numbers -/
inductive Tr (α : Type) where
  | nil
  | node (o : Option α) (l r : Tr α)
def Tr.get {α : Type} : Tr α → Nat → Option α
  | .nil, _ => none
  | .node o l r, i => if i = 0 then o else if i % 2 = 1 then l.get (i / 2) else r.get (i / 2 - 1)
def Tr.set {α : Type} (o : Option α) : Nat → Tr α → Nat → Tr α
  | 0, t, _ => t
  | n + 1, .nil, i => if i = 0 then .node o .nil .nil else if i % 2 = 1 then .node none (Tr.set o n .nil (i / 2)) .nil else .node none .nil (Tr.set o n .nil (i / 2 - 1))
  | n + 1, .node p l r, i => if i = 0 then .node o l r else if i % 2 = 1 then .node p (Tr.set o n l (i / 2)) r else .node p l (Tr.set o n r (i / 2 - 1))
theorem Tr.get_nil {α : Type} (i : Nat) : (Tr.nil : Tr α).get i = none := rfl
theorem Tr.get_set_same {α : Type} (o : Option α) : ∀ (n : Nat) (t : Tr α) (i : Nat), i < n → (Tr.set o n t i).get i = o
  | 0, _, _, h => by omega
  | n + 1, t, i, h => by
    cases t with
    | nil =>
      simp only [Tr.set]
      split
      · rename_i e; subst e; simp [Tr.get]
      · rename_i e
        split
        · rename_i e1; simp only [Tr.get, if_neg e, if_pos e1]; exact Tr.get_set_same o n _ _ (by omega)
        · rename_i e1; simp only [Tr.get, if_neg e, if_neg e1]; exact Tr.get_set_same o n _ _ (by omega)
    | node p l r =>
      simp only [Tr.set]
      split
      · rename_i e; subst e; simp [Tr.get]
      · rename_i e
        split
        · rename_i e1; simp only [Tr.get, if_neg e, if_pos e1]; exact Tr.get_set_same o n _ _ (by omega)
        · rename_i e1; simp only [Tr.get, if_neg e, if_neg e1]; exact Tr.get_set_same o n _ _ (by omega)
theorem Tr.get_set_ne {α : Type} (o : Option α) : ∀ (n : Nat) (t : Tr α) (i j : Nat), i < n → j ≠ i → (Tr.set o n t i).get j = t.get j
  | 0, _, _, _, h, _ => by omega
  | n + 1, t, i, j, h, hne => by
    cases t with
    | nil =>
      simp only [Tr.set]
      split
      · rename_i e; subst e
        simp only [Tr.get]
        rw [if_neg hne]; split <;> rfl
      · rename_i e
        split
        · rename_i e1
          simp only [Tr.get]
          split
          · rfl
          · split
            · exact (Tr.get_set_ne o n .nil _ _ (by omega) (by omega)).trans rfl
            · rfl
        · rename_i e1
          simp only [Tr.get]
          split
          · rfl
          · split
            · rfl
            · exact (Tr.get_set_ne o n .nil _ _ (by omega) (by omega)).trans rfl
    | node p l r =>
      simp only [Tr.set]
      split
      · rename_i e; subst e
        simp only [Tr.get]
        rw [if_neg hne, if_neg hne]
      · rename_i e
        split
        · rename_i e1
          simp only [Tr.get]
          split
          · rfl
          · split
            · exact Tr.get_set_ne o n l _ _ (by omega) (by omega)
            · rfl
        · rename_i e1
          simp only [Tr.get]
          split
          · rfl
          · split
            · rfl
            · exact Tr.get_set_ne o n r _ _ (by omega) (by omega)


/-! ### Values without addresses -/
inductive D where
  | undef
  | val (v : Value)
  /-- a row that is only read: 1 is nil, 2 has no room behind its elements -/
  | slice (g : Nat) (e : TypeId) (l : List D)
  /-- a part of a box, by its cells -/
  | arr (i : Nat) (e : TypeId) (off len : Nat)
  /-- a part of a row of the call's own, by its elements -/
  | row (i : Nat) (e : TypeId) (off len : Nat)
  | agg (cs : List D)
  | tup (vs : List D)
  | ptr (i : Nat) (off : Nat)
  | rptr (i : Nat) (e : TypeId) (k c : Nat)
  | obj (cs : List D) (off : Nat)
  | clo (fn : Fn) (first cap : List D)
  | ifc (t : TypeId) (d : D)
  | mp (i : Nat)
  deriving Inhabited

def cellsD : D → List D
  | .agg cs => cs
  | d => [d]
def flat (l : List D) : List D := l.flatMap cellsD
def szOf (P : Program) (e : TypeId) : Nat := match P.info? e with | some i => i.size | none => 0

/-- Where an object lies: its block, its first cell, its room in elements, their type. -/
structure Gi where
  b : Nat
  o : Nat
  cap : Nat
  e : TypeId
structure Gh where
  K : Addr → Value → Prop
  g : Nat → Option Gi
structure Gh.le (Γ Γ' : Gh) : Prop where
  K : ∀ a v, Γ.K a v → Γ'.K a v
  g : ∀ i x, Γ.g i = some x → Γ'.g i = some x
theorem Gh.le.refl (Γ : Gh) : Γ.le Γ := ⟨fun _ _ h => h, fun _ _ h => h⟩
theorem Gh.le.trans {a b c : Gh} (h : a.le b) (k : b.le c) : a.le c := ⟨fun _ _ x => k.K _ _ (h.K _ _ x), fun _ _ x => k.g _ _ (h.g _ _ x)⟩

inductive Rep (P : Program) (Γ : Gh) : D → Value → Prop
  | undef (v : Value) : Rep P Γ .undef v
  | val (v : Value) : Rep P Γ (.val v) v
  | nil (e : TypeId) : Rep P Γ (.slice 1 e []) (.slice none 0 0)
  | slice (g : Nat) (e : TypeId) (l : List D) (a : Option Addr) (ad : Addr) (cap : Nat) (vs : Nat → Value) (hg : g ≠ 1) (h2 : g = 2 → cap = l.length) (h3 : g = 3 → a.isSome = true)
      (hc : l.length ≤ cap) (hm : cap ≤ maxLen) (ha : l = [] ∨ a = some ad)
      (hs : ∀ d ∈ l, (cellsD d).length = szOf P e)
      (hk : ∀ (i : Nat) d, (flat l)[i]? = some d → Γ.K (ad.add i) (vs i))
      (hr : ∀ (i : Nat) d, (flat l)[i]? = some d → Rep P Γ d (vs i)) : Rep P Γ (.slice g e l) (.slice a l.length cap)
  | arr (i : Nat) (e : TypeId) (off len : Nat) (x : Gi) (cap : Nat) (hb : Γ.g i = some x) (hc : len ≤ cap) (hm : cap ≤ maxLen) : Rep P Γ (.arr i e off len) (.slice (some ⟨x.b, off, none⟩) len cap)
  | row (i : Nat) (e : TypeId) (off len : Nat) (x : Gi) (hb : Γ.g i = some x) (he : x.e = e) (hc : off + len ≤ x.cap) (hm : x.cap ≤ maxLen) :
      Rep P Γ (.row i e off len) (.slice (some ⟨x.b, x.o + off * szOf P e, none⟩) len (x.cap - off))
  | agg (cs : List D) (vs : List Value) (hl : cs.length = vs.length) (hr : ∀ (i : Nat) d v, cs[i]? = some d → vs[i]? = some v → Rep P Γ d v) : Rep P Γ (.agg cs) (.agg vs.toArray)
  | tup (cs : List D) (vs : List Value) (hl : cs.length = vs.length) (hr : ∀ (i : Nat) d v, cs[i]? = some d → vs[i]? = some v → Rep P Γ d v) : Rep P Γ (.tup cs) (.tuple vs.toArray)
  | ptr (i off : Nat) (x : Gi) (hb : Γ.g i = some x) : Rep P Γ (.ptr i off) (.pointer (some ⟨x.b, off, none⟩))
  | rptr (i : Nat) (e : TypeId) (k c : Nat) (x : Gi) (hb : Γ.g i = some x) (he : x.e = e) : Rep P Γ (.rptr i e k c) (.pointer (some ⟨x.b, x.o + k * szOf P e + c, none⟩))
  | obj (cs : List D) (off : Nat) (ad : Addr) (vs : Nat → Value) (hk : ∀ (i : Nat) d, cs[i]? = some d → Γ.K (ad.add i) (vs i))
      (hr : ∀ (i : Nat) d, cs[i]? = some d → Rep P Γ d (vs i)) : Rep P Γ (.obj cs off) (.pointer (some (ad.add off)))
  | clo (fn : Fn) (first cap : List D) (v1 v2 : List Value) (h1 : first.length = v1.length) (h2 : cap.length = v2.length)
      (r1 : ∀ (i : Nat) d v, first[i]? = some d → v1[i]? = some v → Rep P Γ d v) (r2 : ∀ (i : Nat) d v, cap[i]? = some d → v2[i]? = some v → Rep P Γ d v) :
      Rep P Γ (.clo fn first cap) (.func fn v1.toArray v2.toArray)
  | ifc (t : TypeId) (d : D) (v : Value) (h : Rep P Γ d v) : Rep P Γ (.ifc t d) (.iface t v)
  | mp (i : Nat) (x : Gi) (hb : Γ.g i = some x) : Rep P Γ (.mp i) (.map (some x.b))

theorem Rep.mono {P : Program} {Γ Γ' : Gh} (hle : Γ.le Γ') {d : D} {v : Value} (h : Rep P Γ d v) : Rep P Γ' d v := by
  induction h with
  | undef v => exact .undef v
  | val v => exact .val v
  | nil e => exact .nil e
  | slice g e l a ad cap vs hg h2 h3 hc hm ha hs hk hr ih => exact .slice g e l a ad cap vs hg h2 h3 hc hm ha hs (fun i d hi => hle.K _ _ (hk i d hi)) ih
  | arr i e off len x cap hb hc hm => exact .arr i e off len x cap (hle.g _ _ hb) hc hm
  | row i e off len x hb he hc hm => exact .row i e off len x (hle.g _ _ hb) he hc hm
  | agg cs vs hl hr ih => exact .agg cs vs hl ih
  | tup cs vs hl hr ih => exact .tup cs vs hl ih
  | ptr i off x hb => exact .ptr i off x (hle.g _ _ hb)
  | rptr i e k c x hb he => exact .rptr i e k c x (hle.g _ _ hb) he
  | obj cs off ad vs hk hr ih => exact .obj cs off ad vs (fun i d hi => hle.K _ _ (hk i d hi)) ih
  | clo fn first cap v1 v2 h1 h2 r1 r2 i1 i2 => exact .clo fn first cap v1 v2 h1 h2 i1 i2
  | ifc t d v h ih => exact .ifc t d v ih
  | mp i x hb => exact .mp i x (hle.g _ _ hb)

/-! ### The abstract heap -/
inductive PObj where
  | cells (cs : List D)
  | row (e : TypeId) (l : List D)
  | map (es : List (Value × D))
/-- Objects by their numbers, the next number, and what is known of package-level variables. -/
structure Heap where
  t : Tr PObj
  nx : Nat
  G : Nat → Option (List D)
def Heap.get (H : Heap) (i : Nat) : Option PObj := H.t.get i
def Heap.put (H : Heap) (i : Nat) (o : Option PObj) : Heap := { H with t := Tr.set o (i + 1) H.t i }
def Heap.new (H : Heap) (o : PObj) : Heap := { H with t := Tr.set (some o) (H.nx + 1) H.t H.nx, nx := H.nx + 1 }
@[simp] theorem Heap.put_nx (H : Heap) (i : Nat) (o : Option PObj) : (H.put i o).nx = H.nx := rfl
@[simp] theorem Heap.put_G (H : Heap) (i : Nat) (o : Option PObj) : (H.put i o).G = H.G := rfl
@[simp] theorem Heap.new_nx (H : Heap) (o : PObj) : (H.new o).nx = H.nx + 1 := rfl
@[simp] theorem Heap.new_G (H : Heap) (o : PObj) : (H.new o).G = H.G := rfl
@[simp] theorem Heap.put_same (H : Heap) (i : Nat) (o : Option PObj) : (H.put i o).get i = o := Tr.get_set_same _ _ _ _ (by omega)
theorem Heap.put_ne (H : Heap) {i j : Nat} (o : Option PObj) (h : j ≠ i) : (H.put i o).get j = H.get j := Tr.get_set_ne _ _ _ _ _ (by omega) h
@[simp] theorem Heap.new_same (H : Heap) (o : PObj) : (H.new o).get H.nx = some o := Tr.get_set_same _ _ _ _ (by omega)
theorem Heap.new_ne (H : Heap) {j : Nat} (o : PObj) (h : j ≠ H.nx) : (H.new o).get j = H.get j := Tr.get_set_ne _ _ _ _ _ (by omega) h

/-! ### The heap and the world -/
/-- What a block holds, of an object that lies in it. -/
def Holds (P : Program) (Γ : Gh) (c : Option Obj) (x : Gi) : PObj → Prop
  | .cells cs => ∃ vs T fr, c = some (.cells vs T fr) ∧ cs.length ≤ vs.size ∧ (fr = (0, 0) ∨ vs.size ≤ fr.1) ∧ ∀ (j : Nat) d, cs[j]? = some d → ∃ v, vs[j]? = some v ∧ Rep P Γ d v ∧ v.oneCell' = true
  | .row e l => x.e = e ∧ x.cap ≤ maxLen ∧ l.length ≤ x.cap ∧ (∀ d ∈ l, (cellsD d).length = szOf P e) ∧ ∃ vs T fr, c = some (.cells vs T fr) ∧ vs.size = x.o + x.cap * szOf P e ∧ (T = e ∧ x.o % szOf P e = 0 ∧ (fr = (0, 0) ∨ vs.size ≤ fr.1)) ∧
      ∀ (j : Nat) d, (flat l)[j]? = some d → ∃ v, vs[x.o + j]? = some v ∧ Rep P Γ d v ∧ v.oneCell' = true
  | .map es => ∃ ents clock, c = some (.map ents clock) ∧ ents.size = es.length ∧ ∀ (j : Nat) k d, es[j]? = some (k, d) → ∃ m, ents[j]? = some m ∧ m.key = k ∧ Rep P Γ d m.val
theorem Holds.mono {P : Program} {Γ Γ' : Gh} {c : Option Obj} {x : Gi} {o : PObj} (h : Holds P Γ c x o) (hle : Γ.le Γ') : Holds P Γ' c x o := by
  cases o with
  | cells cs => obtain ⟨vs, T, fr, h1, h2, h3, h4⟩ := h; exact ⟨vs, T, fr, h1, h2, h3, fun j d hj => (h4 j d hj).imp fun v hv => ⟨hv.1, hv.2.1.mono hle, hv.2.2⟩⟩
  | row e l => obtain ⟨k1, k2, k3, k4, vs, T, fr, h1, h2, h3, h4⟩ := h; exact ⟨k1, k2, k3, k4, vs, T, fr, h1, h2, h3, fun j d hj => (h4 j d hj).imp fun v hv => ⟨hv.1, hv.2.1.mono hle, hv.2.2⟩⟩
  | map es => obtain ⟨en, cl, h1, h2, h3⟩ := h; exact ⟨en, cl, h1, h2, fun j k d hj => (h3 j k d hj).imp fun m hm => ⟨hm.1, hm.2.1, hm.2.2.mono hle⟩⟩
theorem Holds.some {P : Program} {Γ : Gh} {c : Option Obj} {x : Gi} {o : PObj} (h : Holds P Γ c x o) : ∃ ob, c = some ob := by
  cases o with
  | cells cs => obtain ⟨vs, T, fr, h1, _⟩ := h; exact ⟨_, h1⟩
  | row e l => obtain ⟨_, _, _, _, vs, T, fr, h1, _⟩ := h; exact ⟨_, h1⟩
  | map es => obtain ⟨en, cl, h1, _⟩ := h; exact ⟨_, h1⟩

def GlobOf (P : Program) (Γ : Gh) (G : Nat → Option (List D)) : Prop := ∀ g cs, G g = some cs → ∀ (j : Nat) d, cs[j]? = some d → ∃ v, Γ.K ⟨g, j, none⟩ v ∧ Rep P Γ d v
theorem GlobOf.mono {P : Program} {Γ Γ' : Gh} {G : Nat → Option (List D)} (h : GlobOf P Γ G) (hle : Γ.le Γ') : GlobOf P Γ' G := fun g cs hg j d hj =>
  (h g cs hg j d hj).imp fun v hv => ⟨hle.K _ _ hv.1, hv.2.mono hle⟩

/-- What is not to be touched: some blocks, and what may be known of them. -/
structure Prot where
  S : Nat → Prop
  K : Addr → Value → Prop
structure Kept (B : Prot) (w w' : World) : Prop where
  os : w'.os = w.os
  tape : w'.tape = w.tape
  output : w'.output = w.output
  size : w.heap.size ≤ w'.heap.size
  block : ∀ k, B.S k → w'.heap[k]? = w.heap[k]?
theorem Kept.refl (B : Prot) (w : World) : Kept B w w := ⟨rfl, rfl, rfl, Nat.le_refl _, fun _ _ => rfl⟩
theorem Kept.trans {B : Prot} {a b c : World} (h : Kept B a b) (k : Kept B b c) : Kept B a c :=
  ⟨k.os.trans h.os, k.tape.trans h.tape, k.output.trans h.output, Nat.le_trans h.size k.size, fun i hi => (k.block i hi).trans (h.block i hi)⟩
theorem Kept.drew {B : Prot} {a w : World} (h : Kept B a w) : Kept B a w.drew := ⟨h.os, h.tape, h.output, h.size, h.block⟩
theorem Kept.alloc {B : Prot} {a w : World} (h : Kept B a w) (hB : ∀ k, B.S k → k < w.heap.size) (o : Obj) : Kept B a (w.alloc o) :=
  h.trans ⟨rfl, rfl, rfl, by simp, fun k hk => Below.heap_alloc _ _ _ (hB k hk)⟩
theorem Kept.setCell {B : Prot} {a w : World} (h : Kept B a w) {p : Addr} (hp : ¬ B.S p.block) (u : Value) : Kept B a (w.setCell p u) :=
  h.trans ⟨rfl, rfl, rfl, by simp [World.setCell], fun k hk => Below.heap_setCell _ _ _ _ (fun e => hp (e ▸ hk))⟩
theorem Kept.ofBelow {B : Prot} {n : Nat} {w w' : World} (h : Below n w w') (hB : ∀ k, B.S k → k < n) : Kept B w w' := ⟨h.os, h.tape, h.output, h.size, fun k hk => h.block k (hB k hk)⟩
theorem Kept.freeze {B : Prot} {a w : World} (h : Kept B a w) {p : Addr} (hp : ¬ B.S p.block) (n : Nat) : Kept B a (w.freeze p n) := by
  refine h.trans ?_
  unfold World.freeze
  split
  · exact Kept.refl B w
  · exact ⟨rfl, rfl, rfl, by simp, fun k hk => by
      simp only [Array.getElem?_modify]
      rw [if_neg (fun e => hp (by rw [e]; exact hk))]⟩

structure Rel (P : Program) (base : Prot) (w0 : World) (Γ : Gh) (H : Heap) (w : World) : Prop where
  below : Kept base w0 w
  size : ∀ k, base.S k → k < w.heap.size
  know : ∀ a v, Γ.K a v → w.cell? a = some v ∧ v.oneCell' = true
  obj : ∀ i o, H.get i = some o → ∃ x, Γ.g i = some x ∧ ¬ base.S x.b ∧ Holds P Γ w.heap[x.b]? x o
  sep : ∀ i o x, H.get i = some o → Γ.g i = some x → ∀ a v, Γ.K a v → a.block ≠ x.b
  inj : ∀ i j o p x y, H.get i = some o → H.get j = some p → Γ.g i = some x → Γ.g j = some y → x.b = y.b → i = j
  fresh : ∀ i, H.nx ≤ i → Γ.g i = none
  glob : GlobOf P Γ H.G
  prot : ∀ a v, Γ.K a v → base.S a.block → base.K a v

/-- A block that nothing is told of. -/
def Free (Γ : Gh) (H : Heap) (b : Nat) : Prop := (∀ i o x, H.get i = some o → Γ.g i = some x → x.b ≠ b) ∧ ∀ a v, Γ.K a v → a.block ≠ b

section
variable {P : Program} {base : Prot} {w0 : World} {Γ : Gh} {H : Heap} {w : World}

theorem Rel.lt (h : Rel P base w0 Γ H w) {a : Addr} {v : Value} (k : Γ.K a v) : a.block < w.heap.size := World.block_lt_of_cell? w a (h.know a v k).1
theorem Rel.objAt (h : Rel P base w0 Γ H w) {i : Nat} {o : PObj} {x : Gi} (hi : H.get i = some o) (hx : Γ.g i = some x) : ¬ base.S x.b ∧ x.b < w.heap.size ∧ Holds P Γ w.heap[x.b]? x o := by
  obtain ⟨y, hy, h1, h2⟩ := h.obj i o hi
  rw [hx] at hy; cases hy
  obtain ⟨ob, hob⟩ := h2.some
  exact ⟨h1, (Array.getElem?_eq_some_iff.1 hob).1, h2⟩
theorem Rel.newIn (h : Rel P base w0 Γ H w) : ¬ base.S w.heap.size := fun q => Nat.lt_irrefl _ (h.size _ q)
theorem Rel.newFree (h : Rel P base w0 Γ H w) : Free Γ H w.heap.size :=
  ⟨fun i o x hi hx => by have := (h.objAt hi hx).2.1; omega, fun a v k => by have := h.lt k; omega⟩

/-- Another world in which one free block may have turned. -/
theorem Rel.turn (h : Rel P base w0 Γ H w) {w' : World} (b : Nat) (hf : Free Γ H b) (hb : Kept base w0 w') (hs : w.heap.size ≤ w'.heap.size)
    (hold : ∀ k, k < w.heap.size → k ≠ b → w'.heap[k]? = w.heap[k]?) : Rel P base w0 Γ H w' where
  below := hb
  size := fun k hk => Nat.lt_of_lt_of_le (h.size k hk) hs
  know := fun a v k => ⟨(World.cell?_of_block (hold _ (h.lt k) (hf.2 a v k))).trans (h.know a v k).1, (h.know a v k).2⟩
  obj := fun i o hi => by
    obtain ⟨x, hx, h1, h2⟩ := h.obj i o hi
    exact ⟨x, hx, h1, by rw [hold _ (h.objAt hi hx).2.1 (hf.1 i o x hi hx)]; exact h2⟩
  sep := h.sep
  inj := h.inj
  fresh := h.fresh
  glob := h.glob
  prot := h.prot
theorem Rel.world (h : Rel P base w0 Γ H w) {w' : World} (hb : Kept base w0 w') (hs : w.heap.size ≤ w'.heap.size) (hold : ∀ b, b < w.heap.size → w'.heap[b]? = w.heap[b]?) : Rel P base w0 Γ H w' :=
  h.turn w.heap.size h.newFree hb hs (fun k hk _ => hold k hk)
theorem Rel.alloc (h : Rel P base w0 Γ H w) (o : Obj) : Rel P base w0 Γ H (w.alloc o) := h.world (h.below.alloc h.size o) (by simp) (fun b hb => hpOld w o b hb)
theorem Rel.drew (h : Rel P base w0 Γ H w) : Rel P base w0 Γ H w.drew := h.world h.below.drew (Nat.le_refl _) (fun _ _ => rfl)

/-- Fewer things are claimed of the heap. -/
theorem Rel.sub (h : Rel P base w0 Γ H w) {H' : Heap} (hs : ∀ i o, H'.get i = some o → H.get i = some o) (hn : H.nx ≤ H'.nx) (hG : ∀ g cs, H'.G g = some cs → H.G g = some cs) : Rel P base w0 Γ H' w where
  below := h.below
  size := h.size
  know := h.know
  obj := fun i o hi => h.obj i o (hs _ _ hi)
  sep := fun i o x hi => h.sep i o x (hs _ _ hi)
  inj := fun i j o p x y hi hj => h.inj i j o p x y (hs _ _ hi) (hs _ _ hj)
  fresh := fun i hi => h.fresh i (by omega)
  glob := fun g cs hg => h.glob g cs (hG g cs hg)
  prot := h.prot
theorem Rel.kill (h : Rel P base w0 Γ H w) (i : Nat) : Rel P base w0 Γ (H.put i none) w := h.sub (fun j o hj => by
  by_cases e : j = i
  · subst e; simp at hj
  · rwa [Heap.put_ne _ _ e] at hj) (Nat.le_refl _) (fun _ _ x => x)
/-- The block of an object that is given up is free. -/
theorem Rel.killFree (h : Rel P base w0 Γ H w) {i : Nat} {o : PObj} {x : Gi} (hi : H.get i = some o) (hx : Γ.g i = some x) : Free Γ (H.put i none) x.b :=
  ⟨fun j p y hj hy e => by
    have hne : j ≠ i := fun e => by subst e; simp at hj
    rw [Heap.put_ne _ _ hne] at hj
    exact hne (h.inj j i p o y x hj hi hy hx e), fun a v k => h.sep i o x hi hx a v k⟩

/-- More cells are known, none of them an object's. -/
def Gh.know (Γ : Gh) (S : Addr → Value → Prop) : Gh := { Γ with K := fun a v => Γ.K a v ∨ S a v }
theorem Gh.know_le (Γ : Gh) (S : Addr → Value → Prop) : Γ.le (Γ.know S) := ⟨fun _ _ h => .inl h, fun _ _ h => h⟩
theorem Rel.learn (h : Rel P base w0 Γ H w) (S : Addr → Value → Prop) (hw : ∀ a v, S a v → w.cell? a = some v ∧ v.oneCell' = true)
    (hb : ∀ a v, S a v → ∀ i o x, H.get i = some o → Γ.g i = some x → a.block ≠ x.b) (hp : ∀ a v, S a v → base.S a.block → base.K a v) : Rel P base w0 (Γ.know S) H w where
  below := h.below
  size := h.size
  know := fun a v k => k.elim (h.know a v) (hw a v)
  obj := fun i o hi => by
    obtain ⟨x, hx, h1, h2⟩ := h.obj i o hi
    exact ⟨x, hx, h1, h2.mono (Γ.know_le S)⟩
  sep := fun i o x hi hx a v k => k.elim (h.sep i o x hi hx a v) (fun s => hb a v s i o x hi hx)
  inj := h.inj
  fresh := h.fresh
  glob := h.glob.mono (Γ.know_le S)
  prot := fun a v k => k.elim (h.prot a v) (hp a v)

/-- A new object in a free block. -/
def Gh.add (Γ : Gh) (i : Nat) (x : Gi) : Gh := { Γ with g := fun j => if j = i then some x else Γ.g j }
theorem Gh.add_le {Γ : Gh} {i : Nat} {x : Gi} (h : Γ.g i = none) : Γ.le (Γ.add i x) := ⟨fun _ _ h => h, fun j y hj => by
  have : j ≠ i := fun e => by subst e; rw [h] at hj; cases hj
  simp only [Gh.add, if_neg this]; exact hj⟩
theorem Gh.add_at (Γ : Gh) (i : Nat) (x : Gi) : (Γ.add i x).g i = some x := by simp [Gh.add]
theorem Rel.add (h : Rel P base w0 Γ H w) (x : Gi) (o : PObj) (hbase : ¬ base.S x.b) (hf : Free Γ H x.b) (ho : Holds P Γ w.heap[x.b]? x o) : Rel P base w0 (Γ.add H.nx x) (H.new o) w := by
  have hn := h.fresh H.nx (Nat.le_refl _)
  have hle : Γ.le (Γ.add H.nx x) := Gh.add_le hn
  have hlt : ∀ i p, H.get i = some p → i ≠ H.nx := fun i p hi e => by
    obtain ⟨y, hy, _⟩ := h.obj i p hi
    subst e; rw [hn] at hy; cases hy
  have hg : ∀ i, i ≠ H.nx → (Γ.add H.nx x).g i = Γ.g i := fun i e => by simp [Gh.add, e]
  constructor
  · exact h.below
  · exact h.size
  · exact h.know
  · intro i p hi
    by_cases e : i = H.nx
    · subst e
      simp at hi; subst hi
      exact ⟨x, Γ.add_at _ _, hbase, ho.mono hle⟩
    · rw [Heap.new_ne _ _ e] at hi
      obtain ⟨y, hy, h1, h2⟩ := h.obj i p hi
      exact ⟨y, by rw [hg i e]; exact hy, h1, h2.mono hle⟩
  · intro i p y hi hy a v k
    by_cases e : i = H.nx
    · subst e
      rw [Γ.add_at] at hy; cases hy
      exact hf.2 a v k
    · rw [Heap.new_ne _ _ e] at hi
      rw [hg i e] at hy
      exact h.sep i p y hi hy a v k
  · intro i j p q y z hi hj hy hz eb
    by_cases e : i = H.nx
    · by_cases e' : j = H.nx
      · rw [e, e']
      · subst e
        rw [Γ.add_at] at hy; cases hy
        rw [Heap.new_ne _ _ e'] at hj
        rw [hg j e'] at hz
        exact absurd eb.symm (hf.1 j q z hj hz)
    · rw [Heap.new_ne _ _ e] at hi
      rw [hg i e] at hy
      by_cases e' : j = H.nx
      · subst e'
        rw [Γ.add_at] at hz; cases hz
        exact absurd eb (hf.1 i p y hi hy)
      · rw [Heap.new_ne _ _ e'] at hj
        rw [hg j e'] at hz
        exact h.inj i j p q y z hi hj hy hz eb
  · intro i hi
    simp at hi
    rw [hg i (by omega)]
    exact h.fresh i (by omega)
  · exact h.glob.mono hle
  · exact h.prot

/-- An object's block has turned, and so has the object. -/
theorem Rel.setObj (h : Rel P base w0 Γ H w) {i : Nat} {o o' : PObj} {x : Gi} (hi : H.get i = some o) (hx : Γ.g i = some x) {w' : World} (hb : Kept base w0 w') (hs : w.heap.size ≤ w'.heap.size)
    (hold : ∀ k, k < w.heap.size → k ≠ x.b → w'.heap[k]? = w.heap[k]?) (ho : Holds P Γ w'.heap[x.b]? x o') : Rel P base w0 Γ (H.put i (some o')) w' := by
  have h1 : Rel P base w0 Γ (H.put i none) w' := (h.kill i).turn x.b (h.killFree hi hx) hb hs hold
  have live : ∀ j p, (H.put i (some o')).get j = some p → ∃ q, H.get j = some q := fun j p hj => by
    by_cases e : j = i
    · subst e; exact ⟨_, hi⟩
    · rw [Heap.put_ne _ _ e] at hj; exact ⟨_, hj⟩
  constructor
  · exact hb
  · exact h1.size
  · exact h1.know
  · intro j p hj
    by_cases e : j = i
    · subst e
      simp at hj; subst hj
      exact ⟨x, hx, (h.objAt hi hx).1, ho⟩
    · rw [Heap.put_ne _ _ e] at hj
      exact h1.obj j p (by rw [Heap.put_ne _ _ e]; exact hj)
  · intro j p y hj hy
    obtain ⟨q, hq⟩ := live j p hj
    exact h.sep j q y hq hy
  · intro j k p q y z hj hk hy hz
    obtain ⟨p', hp'⟩ := live j p hj
    obtain ⟨q', hq'⟩ := live k q hk
    exact h.inj j k p' q' y z hp' hq' hy hz
  · exact h.fresh
  · exact h.glob
  · exact h.prot
end
end Go.Pv
