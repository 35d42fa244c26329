/- Rules for walking through code. -/
import Derived.Test.YtmaajijhfpdefaaPwCode
namespace Go.Pw
open Go.RowKit
section
variable {P : Program} {n : Nat} {st : PSt} {Q : Exit → PSt → Prop}
/-! ### Rules that keep what follows out of sight -/
theorem seq_k {x y : Code} (h : ∀ K : PSt → Prop, (∀ st, pwp P n y Q st → K st) → pwp P n x (thenP K Q) st) : pwp P n (.seq x y) Q st := pwp_seq (h _ fun _ h => h)
theorem region_k {id : Nat} {ops : List Oper} (hf : fits n ops = true) (h : ∀ K : PSt → Prop, (∀ st, Q .normal st → K st) → pops P ops.toArray ops K st) : pwp P n (.region id ops.toArray false) Q st :=
  pwp_region hf (h _ fun _ h => h)
theorem cond_k {c : Operand} {x y : Code} {t : Bool} (hc : st.ev c = .val (.bool t)) (ht : t = true → pwp P n x Q st) (hf : t = false → pwp P n y Q st) : pwp P n (.cond c x y) Q st := pwp_cond hc ht hf
def boolOf : D → Bool
  | .val (.bool b) => b
  | _ => false
def isBoolD : D → Bool
  | .val (.bool _) => true
  | _ => false
theorem cond_b {c : Operand} {x y : Code} (hc : isBoolD (st.ev c) = true) (ht : boolOf (st.ev c) = true → pwp P n x Q st) (hf : boolOf (st.ev c) = false → pwp P n y Q st) : pwp P n (.cond c x y) Q st := by
  have : ∃ t, st.ev c = .val (.bool t) := by
    unfold isBoolD at hc
    split at hc
    · exact ⟨_, by assumption⟩
    · cases hc
  obtain ⟨t, h⟩ := this
  rw [h] at ht hf
  exact pwp_cond h ht hf
@[simp] theorem thenP_normal (K : PSt → Prop) (Q : Exit → PSt → Prop) (st : PSt) : thenP K Q .normal st = K st := propext Iff.rfl
@[simp] theorem thenP_exit (K : PSt → Prop) (Q : Exit → PSt → Prop) (i : Nat) (st : PSt) : thenP K Q (.exit i) st = Q (.exit i) st := propext Iff.rfl
@[simp] theorem thenP_goto (K : PSt → Prop) (Q : Exit → PSt → Prop) (i : Nat) (st : PSt) : thenP K Q (.goto i) st = Q (.goto i) st := propext Iff.rfl
@[simp] theorem thenP_ret (K : PSt → Prop) (Q : Exit → PSt → Prop) (st : PSt) : thenP K Q .ret st = Q .ret st := propext Iff.rfl
@[simp] theorem inBlockP_normal (i : Nat) (Q : Exit → PSt → Prop) (st : PSt) : inBlockP i Q .normal st = Q .normal st := propext Iff.rfl
@[simp] theorem inBlockP_ret (i : Nat) (Q : Exit → PSt → Prop) (st : PSt) : inBlockP i Q .ret st = Q .ret st := propext Iff.rfl
@[simp] theorem inBlockP_goto (i j : Nat) (Q : Exit → PSt → Prop) (st : PSt) : inBlockP i Q (.goto j) st = Q (.goto j) st := propext Iff.rfl
@[simp] theorem inBlockP_exit (i j : Nat) (Q : Exit → PSt → Prop) (st : PSt) : inBlockP i Q (.exit j) st = if j = i then Q .normal st else Q (.exit j) st := propext Iff.rfl
variable {ops : Array Oper} {dst : Option Tmp} {op : Op} {ty : TypeId} {pos : String} {after : Array Edge} {rest : List Oper} {K : PSt → Prop} {j : Nat} {b : Bool}
theorem plain {α : Sort _} (x : α) : x = x := by cases (Eq.refl x); exact Eq.refl x
def upd (env : Nat → D) (t : Nat) (d : D) : Nat → D := fun i => if i = t then d else env i
@[simp] theorem upd_at (env : Nat → D) (t : Nat) (d : D) (i : Nat) : upd env t d i = if i = t then d else env i := plain _
@[simp] theorem put_some_upd (env : Nat → D) (H : Heap) (t : Nat) (d : D) : PSt.put ⟨env, H⟩ (some t) d = ⟨upd env t d, H⟩ := plain _
@[simp] theorem put_none_upd (env : Nat → D) (H : Heap) (d : D) : PSt.put ⟨env, H⟩ none d = ⟨env, H⟩ := plain _
@[simp] theorem initEnv_at (n : Nat) (ds : List D) (i : Nat) : initEnv n ds i = if i < n then ds.getD i (.val undef) else .undef := plain _
/-- What follows an operation, out of sight until its value is there. -/
def nextK (P : Program) (ops : Array Oper) (rest : List Oper) (K : PSt → Prop) (env : Nat → D) (dst : Option Tmp) : D → Heap → Prop := fun d H' => pops P ops rest K (PSt.put ⟨env, H'⟩ dst d)
@[simp] theorem nextK_app (env : Nat → D) (d : D) (H' : Heap) : nextK P ops rest K env dst d H' = pops P ops rest K (PSt.put ⟨env, H'⟩ dst d) := propext Iff.rfl
def atH (K : D → Heap → Prop) (H : Heap) : D → Prop := fun d => K d H
@[simp] theorem atH_app (K : D → Heap → Prop) (H : Heap) (d : D) : atH K H d = K d H := propext Iff.rfl
def atU (K : D → Heap → Prop) : Heap → Prop := fun H => K (.val undef) H
@[simp] theorem atU_app (K : D → Heap → Prop) (H : Heap) : atU K H = K (.val undef) H := propext Iff.rfl
@[simp ↓] theorem pops_nil : pops P ops [] K st = K st := propext Iff.rfl
@[simp ↓] theorem pops_plain : pops P ops (⟨dst, op, ty, pos, after, none⟩ :: rest) K st = pop P ⟨dst, op, ty, pos, after, none⟩ st (nextK P ops rest K st.env dst) := propext Iff.rfl
@[simp ↓] theorem pops_taken (h : guardD ops st j = some (some b)) : pops P ops (⟨dst, op, ty, pos, after, some (j, b)⟩ :: rest) K st = pop P ⟨dst, op, ty, pos, after, none⟩ st (nextK P ops rest K st.env dst) := by
  have e : pop P ⟨dst, op, ty, pos, after, some (j, b)⟩ st = pop P ⟨dst, op, ty, pos, after, none⟩ st := by unfold pop; rfl
  rw [← e]
  simp only [pops, h]
  simp
  rfl
@[simp ↓] theorem pops_passed (h : guardD ops st j = some (some (!b))) : pops P ops (⟨dst, op, ty, pos, after, some (j, b)⟩ :: rest) K st = pops P ops rest K (st.put dst (.val undef)) := by
  simp [pops, h]
@[simp ↓] theorem pops_none (h : guardD ops st j = some none) : pops P ops (⟨dst, op, ty, pos, after, some (j, b)⟩ :: rest) K st = pops P ops rest K (st.put dst (.val undef)) := by
  simp [pops, h]
end
section
variable {P : Program} {st : PSt} {K : D → Heap → Prop} {dst : Option Tmp} {ty : TypeId} {pos : String} {after : Array Edge} {gd : Option (Nat × Bool)}
@[simp ↓] theorem pop_move (x : Operand) : pop P ⟨dst, .move x, ty, pos, after, gd⟩ st K = (K (st.ev x) st.H) := propext Iff.rfl
@[simp ↓] theorem pop_assign (x : Operand) : pop P ⟨dst, .assign x, ty, pos, after, gd⟩ st K = (K (st.ev x) st.H) := propext Iff.rfl
@[simp ↓] theorem pop_pick (c x y : Operand) : pop P ⟨dst, .pick c x y, ty, pos, after, gd⟩ st K = (pPick (st.ev c) (st.ev x) (st.ev y) (atH K st.H)) := propext Iff.rfl
@[simp ↓] theorem pop_binOp (o : BinOp) (t : TypeId) (x y : Operand) (u : TypeId) : pop P ⟨dst, .binOp o t x y u, ty, pos, after, gd⟩ st K = (pBin P o t (st.ev x) (st.ev y) (atH K st.H)) := propext Iff.rfl
@[simp ↓] theorem pop_unOp (o : UnOp) (t : TypeId) (x : Operand) : pop P ⟨dst, .unOp o t x, ty, pos, after, gd⟩ st K = (pUn o (st.ev x) (atH K st.H)) := propext Iff.rfl
@[simp ↓] theorem pop_convert (s d : TypeId) (x : Operand) : pop P ⟨dst, .convert s d x, ty, pos, after, gd⟩ st K = (pConvert P s d (st.ev x) st.H K) := propext Iff.rfl
@[simp ↓] theorem pop_index (t : TypeId) (x i : Operand) : pop P ⟨dst, .index t x i, ty, pos, after, gd⟩ st K = (pIndex P t (st.ev x) (st.ev i) (atH K st.H)) := propext Iff.rfl
@[simp ↓] theorem pop_indexAddr (t : TypeId) (x i : Operand) : pop P ⟨dst, .indexAddr t x i, ty, pos, after, gd⟩ st K = (pIndexAddr P t (st.ev x) (st.ev i) (atH K st.H)) := propext Iff.rfl
@[simp ↓] theorem pop_slice (t : TypeId) (x : Operand) (lo hi : Option Operand) : pop P ⟨dst, .slice t x lo hi none, ty, pos, after, gd⟩ st K = (pSlice P t (st.ev x) (lo.map st.ev) (hi.map st.ev) (atH K st.H)) := propext Iff.rfl
@[simp ↓] theorem pop_field (t : TypeId) (x : Operand) (f : Nat) : pop P ⟨dst, .field t x f, ty, pos, after, gd⟩ st K = (pField P t (st.ev x) f (atH K st.H)) := propext Iff.rfl
@[simp ↓] theorem pop_fieldAddr (t : TypeId) (x : Operand) (f : Nat) : pop P ⟨dst, .fieldAddr t x f, ty, pos, after, gd⟩ st K = (pFieldAddr P t (st.ev x) f (atH K st.H)) := propext Iff.rfl
@[simp ↓] theorem pop_load (t : TypeId) (x : Operand) : pop P ⟨dst, .load t x, ty, pos, after, gd⟩ st K = (pLoad P t (st.ev x) st.H (atH K st.H)) := propext Iff.rfl
@[simp ↓] theorem pop_store (t : TypeId) (p x : Operand) : pop P ⟨dst, .store t p x, ty, pos, after, gd⟩ st K = (pStore P t (st.ev p) (st.ev x) st.H (atU K)) := propext Iff.rfl
@[simp ↓] theorem pop_extract (x : Operand) (i : Nat) : pop P ⟨dst, .extract x i, ty, pos, after, gd⟩ st K = (pExtract (st.ev x) i (atH K st.H)) := propext Iff.rfl
@[simp ↓] theorem pop_makeInterface (t : TypeId) (x : Operand) : pop P ⟨dst, .makeInterface t x, ty, pos, after, gd⟩ st K = (pMakeInterface P t (st.ev x) (atH K st.H)) := propext Iff.rfl
@[simp ↓] theorem pop_makeFunc (fn : Fn) (a b : Array Operand) : pop P ⟨dst, .makeFunc fn a b, ty, pos, after, gd⟩ st K = (K (.clo fn (a.toList.map st.ev) (b.toList.map st.ev)) st.H) := propext Iff.rfl
@[simp ↓] theorem pop_nilCheck (x : Operand) : pop P ⟨dst, .nilCheck x, ty, pos, after, gd⟩ st K = (pNilCheck (st.ev x) (atH K st.H)) := propext Iff.rfl
@[simp ↓] theorem pop_alloc (t : TypeId) : pop P ⟨dst, .alloc t, ty, pos, after, gd⟩ st K = (pAlloc P t st.H K) := propext Iff.rfl
@[simp ↓] theorem pop_box (t : TypeId) (x : Operand) : pop P ⟨dst, .box t x, ty, pos, after, gd⟩ st K = (pBox (st.ev x) st.H K) := propext Iff.rfl
@[simp ↓] theorem pop_build (t : TypeId) (ps : Array (Nat × Operand)) : pop P ⟨dst, .build t ps, ty, pos, after, gd⟩ st K = (pBuild P t (ps.toList.map fun p => (p.1, st.ev p.2)) (atH K st.H)) := propext Iff.rfl
@[simp ↓] theorem pop_buildSlice (t : TypeId) (n : Nat) (ps : Array (Nat × Operand)) : pop P ⟨dst, .buildSlice t n ps, ty, pos, after, gd⟩ st K = (pBuildSlice P t n (ps.toList.map fun p => (p.1, st.ev p.2)) st.H K) := propext Iff.rfl
@[simp ↓] theorem pop_makeSlice (t : TypeId) (n c : Operand) : pop P ⟨dst, .makeSlice t n c, ty, pos, after, gd⟩ st K = (pMakeSlice P t (st.ev n) (st.ev c) st.H K) := propext Iff.rfl
@[simp ↓] theorem pop_call (c : Call) : pop P ⟨dst, .call c, ty, pos, after, gd⟩ st K = (pCall P c st K) := propext Iff.rfl
end
attribute [simp] boolOf isBoolD undef PSt.ev ofZero ofVal pBin intBin strBin pEq isNilD isNilP eqCells eqCell pUn pIndex pField pFieldAddr pIndexAddr pLoad pExtract pBounds pSlice subArr pConvert pMakeInterface pNilCheck pAppend pBuild pMakeSlice
  pAlloc pStore pLen guardD pCall pPart updD resultsD results1 tupD retPost Value.oneCell'
/-- A row of given elements: as a slice that may be appended to. -/
theorem bs_slice {P : Program} {t e : TypeId} {n : Nat} {parts : List (Nat × D)} {H : Heap} {K : D → Heap → Prop} (hu : P.underlying t = some (.slice e))
    (h : 0 < szOf P e ∧ n * szOf P e ≤ 16777216 ∧ (zeroD P e).isSome = true ∧ parts.all (fun p => okPart p.2 && (cellsD p.2).length == szOf P e) = true) (hr : parts.map (·.1) = List.range n)
    (hK : ∀ g, 2 ≤ g → H g = none → K (.slice g e (parts.map (·.2))) (H.put g (some .spare))) : pBuildSlice P t n parts H K := by
  unfold pBuildSlice
  rw [hu]
  exact ⟨h.1, h.2.1, hr, h.2.2.1, h.2.2.2, .inl hK⟩
/-- A row of given elements: as one that may be written to. -/
theorem bs_arr {P : Program} {t e : TypeId} {n : Nat} {parts : List (Nat × D)} {H : Heap} {K : D → Heap → Prop} (hu : P.underlying t = some (.slice e))
    (h : 0 < szOf P e ∧ n * szOf P e ≤ 16777216 ∧ (zeroD P e).isSome = true ∧ parts.all (fun p => okPart p.2 && (cellsD p.2).length == szOf P e) = true) (hr : parts.map (·.1) = List.range n)
    (hK : ∀ i, 2 ≤ i → H i = none → K (.arr i e 0 n) (H.put i (some (.cells (flat (parts.map (·.2))))))) : pBuildSlice P t n parts H K := by
  unfold pBuildSlice
  rw [hu]
  exact ⟨h.1, h.2.1, hr, h.2.2.1, h.2.2.2, .inr hK⟩
theorem box_obj {d : D} {H : Heap} {K : D → Heap → Prop} (h : okPart d = true) (hK : K (.obj (cellsD d) 0) H) : pBox d H K := ⟨h, .inr hK⟩
theorem box_ptr {d : D} {H : Heap} {K : D → Heap → Prop} (h : okPart d = true) (hK : ∀ i, 2 ≤ i → H i = none → K (.ptr i 0) (H.put i (some (.cells (cellsD d))))) : pBox d H K := ⟨h, .inl hK⟩
@[simp] theorem pPick_true (a b : D) (K : D → Prop) : pPick (.val (.bool true)) a b K = K a := by simp [pPick]
@[simp] theorem pPick_false (a b : D) (K : D → Prop) : pPick (.val (.bool false)) a b K = K b := by simp [pPick]
@[simp] theorem cellsD_val (v : Value) : cellsD (.val v) = [.val v] := rfl
@[simp] theorem oneD_val (v : Value) : oneD (.val v) = v.oneCell' := rfl
@[simp] theorem okPart_val (v : Value) : okPart (.val v) = v.oneCell' := rfl
@[simp] theorem cellsD_slice (g : Nat) (e : TypeId) (l : List D) : cellsD (.slice g e l) = [.slice g e l] := rfl
@[simp] theorem oneD_slice (g : Nat) (e : TypeId) (l : List D) : oneD (.slice g e l) = true := rfl
@[simp] theorem okPart_slice (g : Nat) (e : TypeId) (l : List D) : okPart (.slice g e l) = true := rfl
@[simp] theorem cellsD_arr (i : Nat) (e : TypeId) (o n : Nat) : cellsD (.arr i e o n) = [.arr i e o n] := rfl
@[simp] theorem oneD_arr (i : Nat) (e : TypeId) (o n : Nat) : oneD (.arr i e o n) = true := rfl
@[simp] theorem okPart_arr (i : Nat) (e : TypeId) (o n : Nat) : okPart (.arr i e o n) = true := rfl
@[simp] theorem cellsD_ptr (i o : Nat) : cellsD (.ptr i o) = [.ptr i o] := rfl
@[simp] theorem oneD_ptr (i o : Nat) : oneD (.ptr i o) = true := rfl
@[simp] theorem okPart_ptr (i o : Nat) : okPart (.ptr i o) = true := rfl
@[simp] theorem cellsD_obj (cs : List D) (o : Nat) : cellsD (.obj cs o) = [.obj cs o] := rfl
@[simp] theorem oneD_obj (cs : List D) (o : Nat) : oneD (.obj cs o) = true := rfl
@[simp] theorem okPart_obj (cs : List D) (o : Nat) : okPart (.obj cs o) = true := rfl
@[simp] theorem cellsD_ifc (t : TypeId) (d : D) : cellsD (.ifc t d) = [.ifc t d] := rfl
@[simp] theorem oneD_ifc (t : TypeId) (d : D) : oneD (.ifc t d) = true := rfl
@[simp] theorem okPart_ifc (t : TypeId) (d : D) : okPart (.ifc t d) = true := rfl
@[simp] theorem cellsD_clo (f : Fn) (a b : List D) : cellsD (.clo f a b) = [.clo f a b] := rfl
@[simp] theorem oneD_clo (f : Fn) (a b : List D) : oneD (.clo f a b) = true := rfl
@[simp] theorem okPart_clo (f : Fn) (a b : List D) : okPart (.clo f a b) = true := rfl
@[simp] theorem cellsD_agg (cs : List D) : cellsD (.agg cs) = cs := rfl
@[simp] theorem oneD_agg (cs : List D) : oneD (.agg cs) = false := rfl
@[simp] theorem okPart_agg (cs : List D) : okPart (.agg cs) = cs.all oneD := rfl
@[simp] theorem cellsD_undef  : cellsD .undef = [.undef] := rfl
@[simp] theorem oneD_undef  : oneD .undef = false := rfl
@[simp] theorem okPart_undef  : okPart .undef = false := rfl
end Go.Pw
