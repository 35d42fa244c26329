/- Values without addresses, and how they are told of a world. -/
import Derived.Below
import Derived.Deep.MidRow
import Derived.Maps.AppendAt
import Derived.Lib.ConvBytes
import Derived.Laws.BytesArg
import Derived.Laws.MakeOwn
import Derived.Laws.Slices
import Derived.Calls
namespace Go.Pw
open Go.RowKit

theorem hpNew (w : World) (o : Obj) : (w.alloc o).heap[w.heap.size]? = some o := by
  show (w.heap.push o)[w.heap.size]? = _
  simp
theorem hpOld (w : World) (o : Obj) (r : Nat) (h : r < w.heap.size) : (w.alloc o).heap[r]? = w.heap[r]? := by
  show (w.heap.push o)[r]? = _
  rw [Array.getElem?_push_lt h, Array.getElem?_eq_getElem h]

/-! ### Values without addresses -/
inductive D where
  | undef
  | val (v : Value)
  | slice (g : Nat) (e : TypeId) (l : List D)
  | arr (i : Nat) (e : TypeId) (off len : Nat)
  | agg (cs : List D)
  | tup (vs : List D)
  | ptr (i : Nat) (off : Nat)
  | obj (cs : List D) (off : Nat)
  | clo (fn : Fn) (first cap : List D)
  | ifc (t : TypeId) (d : D)
  deriving Inhabited

def cellsD : D → List D
  | .agg cs => cs
  | d => [d]
def flat (l : List D) : List D := l.flatMap cellsD
def szOf (P : Program) (e : TypeId) : Nat := match P.info? e with | some i => i.size | none => 0

structure Gh where
  K : Addr → Value → Prop
  box : Nat → Nat → Prop
  tok : Nat → Nat → Nat → Nat → TypeId → Prop
structure Gh.le (Γ Γ' : Gh) : Prop where
  K : ∀ a v, Γ.K a v → Γ'.K a v
  box : ∀ i b, Γ.box i b → Γ'.box i b
  tok : ∀ g b n c e, Γ.tok g b n c e → Γ'.tok g b n c e
theorem Gh.le.refl (Γ : Gh) : Γ.le Γ := ⟨fun _ _ h => h, fun _ _ h => h, fun _ _ _ _ _ h => h⟩
theorem Gh.le.trans {a b c : Gh} (h : a.le b) (k : b.le c) : a.le c :=
  ⟨fun _ _ x => k.K _ _ (h.K _ _ x), fun _ _ x => k.box _ _ (h.box _ _ x), fun _ _ _ _ _ x => k.tok _ _ _ _ _ (h.tok _ _ _ _ _ x)⟩

inductive Rep (P : Program) (Γ : Gh) : D → Value → Prop
  | undef (v : Value) : Rep P Γ .undef v
  | val (v : Value) : Rep P Γ (.val v) v
  | nil (e : TypeId) : Rep P Γ (.slice 1 e []) (.slice none 0 0)
  | slice (g : Nat) (e : TypeId) (l : List D) (a : Option Addr) (ad : Addr) (cap : Nat) (vs : Nat → Value) (hg : g ≠ 1)
      (hc : l.length ≤ cap) (hm : cap ≤ maxLen) (ha : l = [] ∨ a = some ad)
      (ht : 2 ≤ g → ∃ b, a = some ⟨b, 0, none⟩ ∧ Γ.tok g b l.length cap e)
      (hs : ∀ d ∈ l, (cellsD d).length = szOf P e)
      (hk : ∀ (i : Nat) d, (flat l)[i]? = some d → Γ.K (ad.add i) (vs i))
      (hr : ∀ (i : Nat) d, (flat l)[i]? = some d → Rep P Γ d (vs i)) : Rep P Γ (.slice g e l) (.slice a l.length cap)
  | arr (i : Nat) (e : TypeId) (off len b cap : Nat) (hb : Γ.box i b) (hc : len ≤ cap) (hm : cap ≤ maxLen) : Rep P Γ (.arr i e off len) (.slice (some ⟨b, off, none⟩) len cap)
  | agg (cs : List D) (vs : List Value) (hl : cs.length = vs.length) (hr : ∀ (i : Nat) d v, cs[i]? = some d → vs[i]? = some v → Rep P Γ d v) : Rep P Γ (.agg cs) (.agg vs.toArray)
  | tup (cs : List D) (vs : List Value) (hl : cs.length = vs.length) (hr : ∀ (i : Nat) d v, cs[i]? = some d → vs[i]? = some v → Rep P Γ d v) : Rep P Γ (.tup cs) (.tuple vs.toArray)
  | ptr (i off b : Nat) (hb : Γ.box i b) : Rep P Γ (.ptr i off) (.pointer (some ⟨b, off, none⟩))
  | obj (cs : List D) (off : Nat) (ad : Addr) (vs : Nat → Value) (hk : ∀ (i : Nat) d, cs[i]? = some d → Γ.K (ad.add i) (vs i))
      (hr : ∀ (i : Nat) d, cs[i]? = some d → Rep P Γ d (vs i)) : Rep P Γ (.obj cs off) (.pointer (some (ad.add off)))
  | clo (fn : Fn) (first cap : List D) (v1 v2 : List Value) (h1 : first.length = v1.length) (h2 : cap.length = v2.length)
      (r1 : ∀ (i : Nat) d v, first[i]? = some d → v1[i]? = some v → Rep P Γ d v) (r2 : ∀ (i : Nat) d v, cap[i]? = some d → v2[i]? = some v → Rep P Γ d v) :
      Rep P Γ (.clo fn first cap) (.func fn v1.toArray v2.toArray)
  | ifc (t : TypeId) (d : D) (v : Value) (h : Rep P Γ d v) : Rep P Γ (.ifc t d) (.iface t v)

theorem Rep.mono {P : Program} {Γ Γ' : Gh} (hle : Γ.le Γ') {d : D} {v : Value} (h : Rep P Γ d v) : Rep P Γ' d v := by
  induction h with
  | undef v => exact .undef v
  | val v => exact .val v
  | nil e => exact .nil e
  | slice g e l a ad cap vs hg hc hm ha ht hs hk hr ih =>
    exact .slice g e l a ad cap vs hg hc hm ha (fun h => (ht h).imp fun b hb => ⟨hb.1, hle.tok _ _ _ _ _ hb.2⟩) hs (fun i d hi => hle.K _ _ (hk i d hi)) ih
  | arr i e off len b cap hb hc hm => exact .arr i e off len b cap (hle.box _ _ hb) hc hm
  | agg cs vs hl hr ih => exact .agg cs vs hl ih
  | tup cs vs hl hr ih => exact .tup cs vs hl ih
  | ptr i off b hb => exact .ptr i off b (hle.box _ _ hb)
  | obj cs off ad vs hk hr ih => exact .obj cs off ad vs (fun i d hi => hle.K _ _ (hk i d hi)) ih
  | clo fn first cap v1 v2 h1 h2 r1 r2 i1 i2 => exact .clo fn first cap v1 v2 h1 h2 i1 i2
  | ifc t d v h ih => exact .ifc t d v ih

/-! ### The abstract heap and the world -/
inductive PObj where
  | cells (cs : List D)
  | spare
abbrev Heap := Nat → Option PObj
def Heap.put (H : Heap) (i : Nat) (o : Option PObj) : Heap := fun j => if j = i then o else H j
@[simp] theorem Heap.put_same (H : Heap) (i : Nat) (o : Option PObj) : H.put i o i = o := by simp [Heap.put]
theorem Heap.put_ne (H : Heap) {i j : Nat} (o : Option PObj) (h : j ≠ i) : H.put i o j = H j := by simp [Heap.put, h]

structure Rel (P : Program) (base : Nat) (w0 : World) (Γ : Gh) (H : Heap) (w : World) : Prop where
  below : Below base w0 w
  size : base ≤ w.heap.size
  know : ∀ a v, Γ.K a v → w.cell? a = some v ∧ v.oneCell' = true
  boxOf : ∀ i cs, H i = some (.cells cs) → 2 ≤ i ∧ ∃ b vs T fr, Γ.box i b ∧ base ≤ b ∧ w.heap[b]? = some (.cells vs T fr) ∧ cs.length ≤ vs.size ∧ (fr = (0, 0) ∨ vs.size ≤ fr.1) ∧
    (∀ (j : Nat) d, cs[j]? = some d → ∃ v, vs[j]? = some v ∧ Rep P Γ d v ∧ v.oneCell' = true)
  boxFun : ∀ i b b', Γ.box i b → Γ.box i b' → b = b'
  boxSep : ∀ i cs b, H i = some (.cells cs) → Γ.box i b → ∀ a v, Γ.K a v → a.block ≠ b
  boxInj : ∀ i j cs cs' b, H i = some (.cells cs) → H j = some (.cells cs') → Γ.box i b → Γ.box j b → i = j
  tokOf : ∀ g, H g = some .spare → 2 ≤ g ∧ ∃ b n cap e cur, Γ.tok g b n cap e ∧ base ≤ b ∧ w.heap[b]? = some (.cells cur e (0, 0)) ∧ n ≤ cap ∧ cap ≤ maxLen ∧ cur.size = cap * szOf P e
  tokFun : ∀ g b n c e b' n' c' e', Γ.tok g b n c e → Γ.tok g b' n' c' e' → b = b' ∧ n = n' ∧ c = c' ∧ e = e'
  tokSep : ∀ g b n c e, H g = some .spare → Γ.tok g b n c e → ∀ a v, Γ.K a v → a.block = b → a.off < n * szOf P e
  tokInj : ∀ g g' b n c e n' c' e', H g = some .spare → H g' = some .spare → Γ.tok g b n c e → Γ.tok g' b n' c' e' → g = g'
  tokBox : ∀ g i cs b n c e, H g = some .spare → H i = some (.cells cs) → Γ.tok g b n c e → ¬ Γ.box i b
  fresh : ∃ nx, 2 ≤ nx ∧ ∀ i, nx ≤ i → (∀ b, ¬ Γ.box i b) ∧ (∀ b n c e, ¬ Γ.tok i b n c e)

section
variable {P : Program} {base : Nat} {w0 : World} {Γ : Gh} {H : Heap} {w : World}

theorem Rel.lt (h : Rel P base w0 Γ H w) {a : Addr} {v : Value} (k : Γ.K a v) : a.block < w.heap.size := World.block_lt_of_cell? w a (h.know a v k).1

/-- Another world in which everything that matters is as it was. -/
theorem Rel.world (h : Rel P base w0 Γ H w) {w' : World} (hb : Below base w0 w') (hs : base ≤ w'.heap.size) (hold : ∀ b, b < w.heap.size → w'.heap[b]? = w.heap[b]?) : Rel P base w0 Γ H w' where
  below := hb
  size := hs
  know := fun a v k => ⟨(World.cell?_of_block (hold _ (h.lt k))).trans (h.know a v k).1, (h.know a v k).2⟩
  boxOf := fun i cs hi => by
    obtain ⟨h2, b, vs, T, fr, x1, x2, x3, x4⟩ := h.boxOf i cs hi
    exact ⟨h2, b, vs, T, fr, x1, x2, (hold b (Array.getElem?_eq_some_iff.1 x3).1).trans x3, x4⟩
  boxFun := h.boxFun
  boxSep := h.boxSep
  boxInj := h.boxInj
  tokOf := fun g hg => by
    obtain ⟨h2, b, n, cap, e, cur, x1, x2, x3, x4⟩ := h.tokOf g hg
    exact ⟨h2, b, n, cap, e, cur, x1, x2, (hold b (Array.getElem?_eq_some_iff.1 x3).1).trans x3, x4⟩
  tokFun := h.tokFun
  tokSep := h.tokSep
  tokInj := h.tokInj
  tokBox := h.tokBox
  fresh := h.fresh

theorem Rel.alloc (h : Rel P base w0 Γ H w) (o : Obj) : Rel P base w0 Γ H (w.alloc o) :=
  h.world (h.below.alloc h.size o) (by have := h.size; simp; omega) (fun b hb => hpOld w o b hb)

theorem Rel.drew (h : Rel P base w0 Γ H w) : Rel P base w0 Γ H w.drew := h.world h.below.drew h.size (fun _ _ => rfl)

/-- Fewer things are claimed of the heap. -/
theorem Rel.sub (h : Rel P base w0 Γ H w) {H' : Heap} (hs : ∀ i o, H' i = some o → H i = some o) : Rel P base w0 Γ H' w where
  below := h.below
  size := h.size
  know := h.know
  boxOf := fun i cs hi => h.boxOf i cs (hs _ _ hi)
  boxFun := h.boxFun
  boxSep := fun i cs b hi => h.boxSep i cs b (hs _ _ hi)
  boxInj := fun i j cs cs' b hi hj => h.boxInj i j cs cs' b (hs _ _ hi) (hs _ _ hj)
  tokOf := fun g hg => h.tokOf g (hs _ _ hg)
  tokFun := h.tokFun
  tokSep := fun g b n c e hg => h.tokSep g b n c e (hs _ _ hg)
  tokInj := fun g g' b n c e n' c' e' hg hg' => h.tokInj g g' b n c e n' c' e' (hs _ _ hg) (hs _ _ hg')
  tokBox := fun g i cs b n c e hg hi => h.tokBox g i cs b n c e (hs _ _ hg) (hs _ _ hi)
  fresh := h.fresh

/-- More cells are known, all of them neither a box's nor spare. -/
def Gh.know (Γ : Gh) (S : Addr → Value → Prop) : Gh := { Γ with K := fun a v => Γ.K a v ∨ S a v }
theorem Gh.know_le (Γ : Gh) (S : Addr → Value → Prop) : Γ.le (Γ.know S) := ⟨fun _ _ h => .inl h, fun _ _ h => h, fun _ _ _ _ _ h => h⟩
theorem Rel.learn (h : Rel P base w0 Γ H w) (S : Addr → Value → Prop) (hw : ∀ a v, S a v → w.cell? a = some v ∧ v.oneCell' = true)
    (hb : ∀ a v, S a v → ∀ i cs, H i = some (.cells cs) → ¬ Γ.box i a.block)
    (ht : ∀ a v, S a v → ∀ g n c e, H g = some .spare → Γ.tok g a.block n c e → a.off < n * szOf P e) : Rel P base w0 (Γ.know S) H w where
  below := h.below
  size := h.size
  know := fun a v k => k.elim (h.know a v) (hw a v)
  boxOf := fun i cs hi => by
    obtain ⟨h2, b, vs, T, fr, x1, x2, x3, x4, x5, x6⟩ := h.boxOf i cs hi
    exact ⟨h2, b, vs, T, fr, x1, x2, x3, x4, x5, fun j d hj => (x6 j d hj).imp fun v hv => ⟨hv.1, hv.2.1.mono (Γ.know_le S), hv.2.2⟩⟩
  boxFun := h.boxFun
  boxSep := fun i cs b hi hbx a v k => k.elim (h.boxSep i cs b hi hbx a v) (fun s e => hb a v s i cs hi (by rw [e]; exact hbx))
  boxInj := h.boxInj
  tokOf := h.tokOf
  tokFun := h.tokFun
  tokSep := fun g b n c e hg htk a v k => k.elim (h.tokSep g b n c e hg htk a v) (fun s eb => by subst eb; exact ht a v s g n c e hg htk)
  tokInj := h.tokInj
  tokBox := h.tokBox
  fresh := h.fresh

/-- A new box, whose block is the newest. -/
theorem Rel.newBox (h : Rel P base w0 Γ H w) (vs : Array Value) (T : TypeId) (fr : Nat × Nat) (hfr : fr = (0, 0) ∨ vs.size ≤ fr.1) (cs : List D) (hl : cs.length ≤ vs.size)
    (hr : ∀ (j : Nat) d, cs[j]? = some d → ∃ v, vs[j]? = some v ∧ Rep P Γ d v ∧ v.oneCell' = true) {w' : World} (hb : Below base w0 w')
    (hold : ∀ b, b < w.heap.size → w'.heap[b]? = w.heap[b]?) (hnew : w'.heap[w.heap.size]? = some (.cells vs T fr)) :
    ∃ i Γ', 2 ≤ i ∧ H i = none ∧ Γ.le Γ' ∧ Γ'.box i w.heap.size ∧ Rel P base w0 Γ' (H.put i (some (.cells cs))) w' := by
  obtain ⟨nx, h2, hf⟩ := h.fresh
  have hHn : H nx = none := by
    cases hH : H nx with
    | none => rfl
    | some o =>
      cases o with
      | cells cs => obtain ⟨_, b, _, _, _, x, _⟩ := h.boxOf nx cs hH; exact absurd x ((hf nx (Nat.le_refl _)).1 b)
      | spare => obtain ⟨_, b, n, c, e, _, x, _⟩ := h.tokOf nx hH; exact absurd x ((hf nx (Nat.le_refl _)).2 b n c e)
  have hsz : w.heap.size < w'.heap.size := (Array.getElem?_eq_some_iff.1 hnew).1
  have hW := h.world hb (by have := h.size; omega) hold
  let Γ' : Gh := { Γ with box := fun i b => Γ.box i b ∨ (i = nx ∧ b = w.heap.size) }
  have hle : Γ.le Γ' := ⟨fun _ _ x => x, fun _ _ x => .inl x, fun _ _ _ _ _ x => x⟩
  have hboxlt : ∀ i cs b, H i = some (.cells cs) → Γ.box i b → b < w.heap.size := fun i cs b hi hbx => by
    obtain ⟨_, b', vs', T', fr', x1, x2, x3, _⟩ := h.boxOf i cs hi
    rw [h.boxFun i b b' hbx x1]; exact (Array.getElem?_eq_some_iff.1 x3).1
  have htoklt : ∀ g b n c e, H g = some .spare → Γ.tok g b n c e → b < w.heap.size := fun g b n c e hg ht => by
    obtain ⟨_, b', n', c', e', cur, x1, x2, x3, _⟩ := h.tokOf g hg
    rw [(h.tokFun _ _ _ _ _ _ _ _ _ ht x1).1]; exact (Array.getElem?_eq_some_iff.1 x3).1
  refine ⟨nx, Γ', h2, hHn, hle, .inr ⟨rfl, rfl⟩, ?_⟩
  constructor
  · exact hW.below
  · exact hW.size
  · exact hW.know
  · intro i cs' hi
    by_cases e : i = nx
    · subst e
      simp at hi
      subst hi
      exact ⟨h2, w.heap.size, vs, T, fr, .inr ⟨rfl, rfl⟩, h.size, hnew, hl, hfr, fun j d hj => (hr j d hj).imp fun v hv => ⟨hv.1, hv.2.1.mono hle, hv.2.2⟩⟩
    · rw [Heap.put_ne _ _ e] at hi
      obtain ⟨h2', b, vs', T', fr', x1, x2, x3, x4, x5, x6⟩ := hW.boxOf i cs' hi
      exact ⟨h2', b, vs', T', fr', .inl x1, x2, x3, x4, x5, fun j d hj => (x6 j d hj).imp fun v hv => ⟨hv.1, hv.2.1.mono hle, hv.2.2⟩⟩
  · rintro i b b' (x | ⟨rfl, rfl⟩) (y | ⟨hi, rfl⟩)
    · exact h.boxFun i b b' x y
    · subst hi; exact absurd x ((hf _ (Nat.le_refl _)).1 _)
    · exact absurd y ((hf _ (Nat.le_refl _)).1 _)
    · rfl
  · intro i cs' b hi hbx a v k
    rcases hbx with hbx | ⟨rfl, rfl⟩
    · have e : i ≠ nx := fun e => (hf i (by omega)).1 b hbx
      rw [Heap.put_ne _ _ e] at hi
      exact h.boxSep i cs' b hi hbx a v k
    · exact Nat.ne_of_lt (h.lt k)
  · intro i j cs1 cs2 b hi hj hbi hbj
    rcases hbi with hbi | ⟨rfl, rfl⟩ <;> rcases hbj with hbj | ⟨rfl, hb2⟩
    · have ei : i ≠ nx := fun e => (hf i (by omega)).1 b hbi
      have ej : j ≠ nx := fun e => (hf j (by omega)).1 b hbj
      rw [Heap.put_ne _ _ ei] at hi
      rw [Heap.put_ne _ _ ej] at hj
      exact h.boxInj i j cs1 cs2 b hi hj hbi hbj
    · have ei : i ≠ j := fun e => (hf i (by omega)).1 b hbi
      rw [Heap.put_ne _ _ ei] at hi
      have := hboxlt i cs1 b hi hbi
      omega
    · have ej : j ≠ i := fun e => (hf j (by omega)).1 _ hbj
      rw [Heap.put_ne _ _ ej] at hj
      have := hboxlt j cs2 _ hj hbj
      omega
    · rfl
  · intro g hg
    have e : g ≠ nx := fun e => by subst e; simp at hg
    rw [Heap.put_ne _ _ e] at hg
    exact hW.tokOf g hg
  · exact h.tokFun
  · intro g b n c e hg
    have e' : g ≠ nx := fun e => by subst e; simp at hg
    rw [Heap.put_ne _ _ e'] at hg
    exact h.tokSep g b n c e hg
  · intro g g' b n c e n' c' e' hg hg'
    have e1 : g ≠ nx := fun e => by subst e; simp at hg
    have e2 : g' ≠ nx := fun e => by subst e; simp at hg'
    rw [Heap.put_ne _ _ e1] at hg
    rw [Heap.put_ne _ _ e2] at hg'
    exact h.tokInj g g' b n c e n' c' e' hg hg'
  · intro g i cs' b n c e hg hi ht hbx
    have e1 : g ≠ nx := fun e => by subst e; simp at hg
    rw [Heap.put_ne _ _ e1] at hg
    rcases hbx with hbx | ⟨rfl, rfl⟩
    · have ei : i ≠ nx := fun e => (hf i (by omega)).1 b hbx
      rw [Heap.put_ne _ _ ei] at hi
      exact h.tokBox g i cs' b n c e hg hi ht hbx
    · have := htoklt g _ n c e hg ht
      omega
  · exact ⟨nx + 1, by omega, fun i hi => ⟨fun b hb => hb.elim ((hf i (by omega)).1 b) (fun hh => by omega), fun b n c e => (hf i (by omega)).2 b n c e⟩⟩

theorem Rel.boxLt (h : Rel P base w0 Γ H w) {i : Nat} {cs : List D} {b : Nat} (hi : H i = some (.cells cs)) (hb : Γ.box i b) : base ≤ b ∧ b < w.heap.size := by
  obtain ⟨_, b', vs', T', fr', x1, x2, x3, _⟩ := h.boxOf i cs hi
  rw [h.boxFun i b b' hb x1]; exact ⟨x2, (Array.getElem?_eq_some_iff.1 x3).1⟩
theorem Rel.tokLt (h : Rel P base w0 Γ H w) {g b n c : Nat} {e : TypeId} (hg : H g = some .spare) (ht : Γ.tok g b n c e) : base ≤ b ∧ b < w.heap.size := by
  obtain ⟨_, b', n', c', e', cur, x1, x2, x3, _⟩ := h.tokOf g hg
  rw [(h.tokFun _ _ _ _ _ _ _ _ _ ht x1).1]; exact ⟨x2, (Array.getElem?_eq_some_iff.1 x3).1⟩

/-- One block that nobody holds any more has turned, but for what is known of it. -/
theorem Rel.turn (h : Rel P base w0 Γ H w) {w' : World} (b : Nat) (hbase : base ≤ b) (hb : Below base w0 w') (hs : w.heap.size ≤ w'.heap.size)
    (hold : ∀ k, k < w.heap.size → k ≠ b → w'.heap[k]? = w.heap[k]?) (hk : ∀ a v, Γ.K a v → a.block = b → w'.cell? a = some v)
    (nb : ∀ i cs, H i = some (.cells cs) → ¬ Γ.box i b) (nt : ∀ g n c e, H g = some .spare → ¬ Γ.tok g b n c e) : Rel P base w0 Γ H w' where
  below := hb
  size := by have := h.size; omega
  know := fun a v k => by
    by_cases e : a.block = b
    · exact ⟨hk a v k e, (h.know a v k).2⟩
    · exact ⟨(World.cell?_of_block (hold _ (h.lt k) e)).trans (h.know a v k).1, (h.know a v k).2⟩
  boxOf := fun i cs hi => by
    obtain ⟨h2, b', vs, T, fr, x1, x2, x3, x4⟩ := h.boxOf i cs hi
    exact ⟨h2, b', vs, T, fr, x1, x2, (hold b' (Array.getElem?_eq_some_iff.1 x3).1 (fun e => nb i cs hi (e ▸ x1))).trans x3, x4⟩
  boxFun := h.boxFun
  boxSep := h.boxSep
  boxInj := h.boxInj
  tokOf := fun g hg => by
    obtain ⟨h2, b', n, cap, e, cur, x1, x2, x3, x4⟩ := h.tokOf g hg
    exact ⟨h2, b', n, cap, e, cur, x1, x2, (hold b' (Array.getElem?_eq_some_iff.1 x3).1 (fun e' => nt g n cap e hg (e' ▸ x1))).trans x3, x4⟩
  tokFun := h.tokFun
  tokSep := h.tokSep
  tokInj := h.tokInj
  tokBox := h.tokBox
  fresh := h.fresh

theorem Rel.unused (h : Rel P base w0 Γ H w) {nx : Nat} (hf : (∀ b, ¬ Γ.box nx b) ∧ (∀ b n c e, ¬ Γ.tok nx b n c e)) : H nx = none := by
  cases hH : H nx with
  | none => rfl
  | some o =>
    cases o with
    | cells cs => obtain ⟨_, b, _, _, _, x, _⟩ := h.boxOf nx cs hH; exact absurd x (hf.1 b)
    | spare => obtain ⟨_, b, n, c, e, _, x, _⟩ := h.tokOf nx hH; exact absurd x (hf.2 b n c e)

/-- A row of the call's own gets a token. -/
theorem Rel.newTok (h : Rel P base w0 Γ H w) (b n cap : Nat) (e : TypeId) (cur : Array Value) (hbase : base ≤ b) (hw : w.heap[b]? = some (.cells cur e (0, 0))) (hn : n ≤ cap) (hm : cap ≤ maxLen)
    (hc : cur.size = cap * szOf P e) (h1 : ∀ (j : Nat) v, j < n * szOf P e → cur[j]? = some v → v.oneCell' = true)
    (nb : ∀ i cs, H i = some (.cells cs) → ¬ Γ.box i b) (nt : ∀ g n c e, H g = some .spare → ¬ Γ.tok g b n c e) (hK : ∀ a v, Γ.K a v → a.block = b → a.off < n * szOf P e) :
    ∃ g Γ', 2 ≤ g ∧ H g = none ∧ (∀ b n c e, ¬ Γ.tok g b n c e) ∧ Γ.le Γ' ∧ Γ'.tok g b n cap e ∧ (∀ (j : Nat) v, j < n * szOf P e → cur[j]? = some v → Γ'.K ⟨b, j, none⟩ v) ∧ Rel P base w0 Γ' (H.put g (some .spare)) w := by
  have hL := h.learn (fun a v => a.block = b ∧ a.spot = none ∧ a.off < n * szOf P e ∧ cur[a.off]? = some v)
    (by rintro ⟨bb, o, sp⟩ v ⟨rfl, hsp, hlt, hv⟩
        cases hsp
        exact ⟨by rw [cell_of_row w bb o cur e (0, 0) hw]; exact hv, h1 o v hlt hv⟩)
    (by rintro a v ⟨rfl, _⟩ i cs hi hbx; exact nb i cs hi hbx)
    (by rintro a v ⟨rfl, _⟩ g n' c' e' hg ht; exact absurd ht (nt g n' c' e' hg))
  generalize hΓ1 : Γ.know (fun a v => a.block = b ∧ a.spot = none ∧ a.off < n * szOf P e ∧ cur[a.off]? = some v) = Γ1 at hL
  have hle1 : Γ.le Γ1 := hΓ1 ▸ Γ.know_le _
  have hbox1 : ∀ i b, Γ1.box i b ↔ Γ.box i b := by subst hΓ1; exact fun _ _ => Iff.rfl
  have htok1 : ∀ g b n c e, Γ1.tok g b n c e ↔ Γ.tok g b n c e := by subst hΓ1; exact fun _ _ _ _ _ => Iff.rfl
  have hK1 : ∀ a v, Γ1.K a v → a.block = b → a.off < n * szOf P e := by
    subst hΓ1
    rintro a v (k | k) hab
    · exact hK a v k hab
    · exact k.2.2.1
  have hK2 : ∀ (j : Nat) v, j < n * szOf P e → cur[j]? = some v → Γ1.K ⟨b, j, none⟩ v := by
    subst hΓ1
    exact fun j v hj hv => .inr ⟨rfl, rfl, hj, hv⟩
  obtain ⟨nx, h2, hf⟩ := hL.fresh
  have hHn : H nx = none := hL.unused (hf nx (Nat.le_refl _))
  let Γ' : Gh := { Γ1 with tok := fun g b' n' c' e' => Γ1.tok g b' n' c' e' ∨ (g = nx ∧ b' = b ∧ n' = n ∧ c' = cap ∧ e' = e) }
  have hle : Γ1.le Γ' := ⟨fun _ _ x => x, fun _ _ x => x, fun _ _ _ _ _ x => .inl x⟩
  refine ⟨nx, Γ', h2, hHn, fun b n c e ht => (hf nx (Nat.le_refl _)).2 b n c e ((htok1 _ _ _ _ _).2 ht), hle1.trans hle, .inr ⟨rfl, rfl, rfl, rfl, rfl⟩, hK2, ?_⟩
  constructor
  · exact hL.below
  · exact hL.size
  · exact hL.know
  · intro i cs hi
    have e1 : i ≠ nx := fun e => by subst e; simp at hi
    rw [Heap.put_ne _ _ e1] at hi
    obtain ⟨h2', b, vs', T', fr', x1, x2, x3, x4, x5, x6⟩ := hL.boxOf i cs hi
    exact ⟨h2', b, vs', T', fr', x1, x2, x3, x4, x5, fun j d hj => (x6 j d hj).imp fun v hv => ⟨hv.1, hv.2.1.mono hle, hv.2.2⟩⟩
  · exact hL.boxFun
  · intro i cs b' hi
    have e1 : i ≠ nx := fun e => by subst e; simp at hi
    rw [Heap.put_ne _ _ e1] at hi
    exact hL.boxSep i cs b' hi
  · intro i j cs cs' b' hi hj
    have e1 : i ≠ nx := fun e => by subst e; simp at hi
    have e2 : j ≠ nx := fun e => by subst e; simp at hj
    rw [Heap.put_ne _ _ e1] at hi
    rw [Heap.put_ne _ _ e2] at hj
    exact hL.boxInj i j cs cs' b' hi hj
  · intro g hg
    by_cases e1 : g = nx
    · subst e1
      exact ⟨h2, b, n, cap, e, cur, .inr ⟨rfl, rfl, rfl, rfl, rfl⟩, hbase, hw, hn, hm, hc⟩
    · rw [Heap.put_ne _ _ e1] at hg
      obtain ⟨h2', b', n', c', e', cur', x1, x2⟩ := hL.tokOf g hg
      exact ⟨h2', b', n', c', e', cur', .inl x1, x2⟩
  · rintro g b1 n1 c1 e1 b2 n2 c2 e2 (x | ⟨rfl, rfl, rfl, rfl, rfl⟩) (y | ⟨hg, rfl, rfl, rfl, rfl⟩)
    · exact hL.tokFun g b1 n1 c1 e1 b2 n2 c2 e2 x y
    · subst hg; exact absurd x ((hf _ (Nat.le_refl _)).2 _ _ _ _)
    · exact absurd y ((hf _ (Nat.le_refl _)).2 _ _ _ _)
    · exact ⟨rfl, rfl, rfl, rfl⟩
  · rintro g b1 n1 c1 e1 hg (x | ⟨rfl, rfl, rfl, rfl, rfl⟩) a v k hab
    · have e3 : g ≠ nx := fun e => (hf g (by omega)).2 _ _ _ _ x
      rw [Heap.put_ne _ _ e3] at hg
      exact hL.tokSep g b1 n1 c1 e1 hg x a v k hab
    · exact hK1 a v k hab
  · rintro g g' b1 n1 c1 e1 n2 c2 e2 hg hg' (x | ⟨rfl, rfl, rfl, rfl, rfl⟩) (y | ⟨rfl, hb2, rfl, rfl, rfl⟩)
    · have e3 : g ≠ nx := fun e => (hf g (by omega)).2 _ _ _ _ x
      have e4 : g' ≠ nx := fun e => (hf g' (by omega)).2 _ _ _ _ y
      rw [Heap.put_ne _ _ e3] at hg
      rw [Heap.put_ne _ _ e4] at hg'
      exact hL.tokInj g g' b1 n1 c1 e1 n2 c2 e2 hg hg' x y
    · have e3 : g ≠ g' := fun e => (hf g (by omega)).2 _ _ _ _ x
      rw [Heap.put_ne _ _ e3] at hg
      subst hb2
      exact absurd ((htok1 _ _ _ _ _).1 x) (nt g n1 c1 e1 hg)
    · have e4 : g' ≠ g := fun e => (hf g' (by omega)).2 _ _ _ _ y
      rw [Heap.put_ne _ _ e4] at hg'
      exact absurd ((htok1 _ _ _ _ _).1 y) (nt g' n2 c2 e2 hg')
    · rfl
  · rintro g i cs b1 n1 c1 e1 hg hi (x | ⟨rfl, rfl, rfl, rfl, rfl⟩) hbx
    · have e3 : g ≠ nx := fun e => (hf g (by omega)).2 _ _ _ _ x
      rw [Heap.put_ne _ _ e3] at hg
      have e4 : i ≠ nx := fun e => by subst e; simp at hi
      rw [Heap.put_ne _ _ e4] at hi
      exact hL.tokBox g i cs b1 n1 c1 e1 hg hi x hbx
    · have e4 : i ≠ g := fun e => by subst e; simp at hi
      rw [Heap.put_ne _ _ e4] at hi
      exact nb i cs hi ((hbox1 _ _).1 hbx)
  · exact ⟨nx + 1, by omega, fun i hi => ⟨(hf i (by omega)).1, fun b' n' c' e' hb => hb.elim ((hf i (by omega)).2 b' n' c' e') (fun hh => by omega)⟩⟩

/-- A box is written. -/
theorem Rel.setBox (h : Rel P base w0 Γ H w) {i b : Nat} {cs : List D} (hi : H i = some (.cells cs)) (hb : Γ.box i b) {w' : World} (hbel : Below base w0 w') (hs : w.heap.size ≤ w'.heap.size)
    (hold : ∀ k, k < w.heap.size → k ≠ b → w'.heap[k]? = w.heap[k]?) (cs' : List D) (vs : Array Value) (T : TypeId) (fr : Nat × Nat) (hnew : w'.heap[b]? = some (.cells vs T fr)) (hfr : fr = (0, 0) ∨ vs.size ≤ fr.1)
    (hl : cs'.length ≤ vs.size) (hr : ∀ (j : Nat) d, cs'[j]? = some d → ∃ v, vs[j]? = some v ∧ Rep P Γ d v ∧ v.oneCell' = true) : Rel P base w0 Γ (H.put i (some (.cells cs'))) w' := by
  have hb2 := (h.boxLt hi hb)
  have h1 : Rel P base w0 Γ (H.put i none) w' := by
    have hsub : ∀ j o, (H.put i none) j = some o → H j = some o := fun j o hj => by
      by_cases e : j = i
      · subst e; simp at hj
      · rwa [Heap.put_ne _ _ e] at hj
    refine (h.sub hsub).turn b hb2.1 hbel hs hold (fun a v k e => absurd e (h.boxSep i cs b hi hb a v k)) ?_ ?_
    · intro j cs2 hj hbx
      have e : j ≠ i := fun e => by subst e; simp at hj
      exact e (h.boxInj j i cs2 cs b (hsub _ _ hj) hi hbx hb)
    · intro g n c e hg ht
      exact h.tokBox g i cs b n c e (hsub _ _ hg) hi ht hb
  have h2 : 2 ≤ i := (h.boxOf i cs hi).1
  constructor
  · exact h1.below
  · exact h1.size
  · exact h1.know
  · intro j cs2 hj
    by_cases e : j = i
    · subst e
      simp at hj
      subst hj
      exact ⟨h2, b, vs, T, fr, hb, hb2.1, hnew, hl, hfr, hr⟩
    · rw [Heap.put_ne _ _ e] at hj
      exact h1.boxOf j cs2 (by rw [Heap.put_ne _ _ e]; exact hj)
  · exact h.boxFun
  · intro j cs2 b' hj hbx
    by_cases e : j = i
    · subst e; exact h.boxSep j cs b' hi hbx
    · rw [Heap.put_ne _ _ e] at hj; exact h.boxSep j cs2 b' hj hbx
  · intro j k cs2 cs3 b' hj hk hbj hbk
    have gj : ∃ c, H j = some (.cells c) := by
      by_cases e : j = i
      · subst e; exact ⟨_, hi⟩
      · rw [Heap.put_ne _ _ e] at hj; exact ⟨_, hj⟩
    have gk : ∃ c, H k = some (.cells c) := by
      by_cases e : k = i
      · subst e; exact ⟨_, hi⟩
      · rw [Heap.put_ne _ _ e] at hk; exact ⟨_, hk⟩
    exact h.boxInj j k _ _ b' gj.choose_spec gk.choose_spec hbj hbk
  · intro g hg
    have e : g ≠ i := fun e => by subst e; simp at hg
    rw [Heap.put_ne _ _ e] at hg
    exact h1.tokOf g (by rw [Heap.put_ne _ _ e]; exact hg)
  · exact h.tokFun
  · intro g b' n c e hg
    have e1 : g ≠ i := fun e => by subst e; simp at hg
    rw [Heap.put_ne _ _ e1] at hg
    exact h.tokSep g b' n c e hg
  · intro g g' b' n c e n' c' e' hg hg'
    have e1 : g ≠ i := fun e => by subst e; simp at hg
    have e2 : g' ≠ i := fun e => by subst e; simp at hg'
    rw [Heap.put_ne _ _ e1] at hg
    rw [Heap.put_ne _ _ e2] at hg'
    exact h.tokInj g g' b' n c e n' c' e' hg hg'
  · intro g j cs2 b' n c e hg hj ht hbx
    have e1 : g ≠ i := fun e => by subst e; simp at hg
    rw [Heap.put_ne _ _ e1] at hg
    have gj : ∃ c, H j = some (.cells c) := by
      by_cases e : j = i
      · subst e; exact ⟨_, hi⟩
      · rw [Heap.put_ne _ _ e] at hj; exact ⟨_, hj⟩
    exact h.tokBox g j _ b' n c e hg gj.choose_spec ht hbx
  · exact h.fresh
end
end Go.Pw
