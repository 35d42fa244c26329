/- Rules for walking through code. -/
import Derived.Test.YtpedcchnhjffpaaGreatPvPrim
namespace Go.Pv
open Go.RowKit
section
variable {P : Program} {n : Nat} {st : PSt} {Q : Exit → PSt → Prop}
/-! ### Rules that keep what follows out of sight -/
/-- 'A' leads to 'K', which is not looked into. -/
def Leads (A K : PSt → Prop) : Prop := ∀ st, A st → K st
theorem Leads.go {A K : PSt → Prop} (h : Leads A K) {st : PSt} (x : A st) : K st := h st x
theorem seq_k {x y : Code} (h : ∀ K : PSt → Prop, Leads (pwp P n y Q) K → pwp P n x (thenP K Q) st) : pwp P n (.seq x y) Q st := pwp_seq (h _ fun _ h => h)
theorem region_k {id : Nat} {ops : List Oper} (h : ∀ K : PSt → Prop, Leads (fun st => Q .normal st) K → pops P ops.toArray ops K st) : pwp P n (.region id ops.toArray false) Q st :=
  pwp_region (h _ fun _ h => h)
theorem region_draw_k (hm : P.follows .mixedOrders = true) {id : Nat} {ops : List Oper} (hok : drawOk P ops = true)
    (h : ∀ K : PSt → Prop, Leads (fun st => Q .normal st) K → pops P ops.toArray ops K st) : pwp P n (.region id ops.toArray true) Q st :=
  pwp_region_draw hm hok (h _ fun _ h => h)
def boolOf : D → Bool
  | .val (.bool b) => b
  | _ => false
def isBoolD : D → Bool
  | .val (.bool _) => true
  | _ => false
theorem cond_b {c : Operand} {x y : Code} (hc : isBoolD (st.ev c) = true) (ht : boolOf (st.ev c) = true → pwp P n x Q st) (hf : boolOf (st.ev c) = false → pwp P n y Q st) : pwp P n (.cond c x y) Q st := by
  have : ∃ t, st.ev c = .val (.bool t) := by
    unfold isBoolD at hc
    split at hc
    · exact ⟨_, by assumption⟩
    · cases hc
  obtain ⟨t, h⟩ := this
  rw [h] at ht hf
  exact pwp_cond h ht hf
theorem cond_t {c : Operand} {x y : Code} (hc : st.ev c = .val (.bool true)) (h : pwp P n x Q st) : pwp P n (.cond c x y) Q st := pwp_cond hc (fun _ => h) (fun e => by cases e)
theorem cond_f {c : Operand} {x y : Code} (hc : st.ev c = .val (.bool false)) (h : pwp P n y Q st) : pwp P n (.cond c x y) Q st := pwp_cond hc (fun e => by cases e) (fun _ => h)
@[simp] theorem thenP_normal (K : PSt → Prop) (Q : Exit → PSt → Prop) (st : PSt) : thenP K Q .normal st = K st := propext Iff.rfl
@[simp] theorem thenP_exit (K : PSt → Prop) (Q : Exit → PSt → Prop) (i : Nat) (st : PSt) : thenP K Q (.exit i) st = Q (.exit i) st := propext Iff.rfl
@[simp] theorem thenP_goto (K : PSt → Prop) (Q : Exit → PSt → Prop) (i : Nat) (st : PSt) : thenP K Q (.goto i) st = Q (.goto i) st := propext Iff.rfl
@[simp] theorem thenP_ret (K : PSt → Prop) (Q : Exit → PSt → Prop) (st : PSt) : thenP K Q .ret st = Q .ret st := propext Iff.rfl
@[simp] theorem inBlockP_normal (i : Nat) (Q : Exit → PSt → Prop) (st : PSt) : inBlockP i Q .normal st = Q .normal st := propext Iff.rfl
@[simp] theorem inBlockP_ret (i : Nat) (Q : Exit → PSt → Prop) (st : PSt) : inBlockP i Q .ret st = Q .ret st := propext Iff.rfl
@[simp] theorem inBlockP_goto (i j : Nat) (Q : Exit → PSt → Prop) (st : PSt) : inBlockP i Q (.goto j) st = Q (.goto j) st := propext Iff.rfl
@[simp] theorem inBlockP_exit (i j : Nat) (Q : Exit → PSt → Prop) (st : PSt) : inBlockP i Q (.exit j) st = if j = i then Q .normal st else Q (.exit j) st := propext Iff.rfl
theorem then_n {K : PSt → Prop} {Q : Exit → PSt → Prop} {st : PSt} (h : K st) : thenP K Q .normal st := h
theorem then_e {K : PSt → Prop} {Q : Exit → PSt → Prop} {i : Nat} {st : PSt} (h : Q (.exit i) st) : thenP K Q (.exit i) st := h
theorem then_g {K : PSt → Prop} {Q : Exit → PSt → Prop} {i : Nat} {st : PSt} (h : Q (.goto i) st) : thenP K Q (.goto i) st := h
theorem then_r {K : PSt → Prop} {Q : Exit → PSt → Prop} {st : PSt} (h : Q .ret st) : thenP K Q .ret st := h
theorem inB_n {i : Nat} {Q : Exit → PSt → Prop} {st : PSt} (h : Q .normal st) : inBlockP i Q .normal st := h
theorem inB_r {i : Nat} {Q : Exit → PSt → Prop} {st : PSt} (h : Q .ret st) : inBlockP i Q .ret st := h
theorem inB_g {i j : Nat} {Q : Exit → PSt → Prop} {st : PSt} (h : Q (.goto j) st) : inBlockP i Q (.goto j) st := h
theorem inB_e {i : Nat} {Q : Exit → PSt → Prop} {st : PSt} (h : Q .normal st) : inBlockP i Q (.exit i) st := by rw [inBlockP_exit, if_pos rfl]; exact h
theorem inB_o {i j : Nat} {Q : Exit → PSt → Prop} {st : PSt} (hj : j.beq i = false) (h : Q (.exit j) st) : inBlockP i Q (.exit j) st := by
  rw [inBlockP_exit, if_neg (fun e => by subst e; simp at hj)]; exact h
theorem plain {α : Sort _} (x : α) : x = x := by cases (Eq.refl x); exact Eq.refl x
end
/-! ### Operations -/
/-- A value, if there is one, and what follows. -/
def oK {α : Type} (x : Option α) (K : α → Prop) : Prop := match x with
  | some a => K a
  | none => False
@[simp] theorem oK_some {α : Type} (a : α) (K : α → Prop) : oK (some a) K = K a := propext Iff.rfl
@[simp] theorem oK_none {α : Type} (K : α → Prop) : oK none K = False := propext Iff.rfl
@[simp] theorem oK_if {α : Type} (c : Prop) [Decidable c] (a : Option α) (K : α → Prop) : oK (if c then a else none) K = (c ∧ oK a K) := by
  by_cases h : c <;> simp [h]
section
variable {P : Program} {st : PSt} {K : PSt → Prop} {dst : Option Tmp} {ty : TypeId} {pos : String} {after : Array Edge} {gd : Option (Nat × Bool)}
/-- What follows, behind a value. -/
def nx (K : PSt → Prop) (E : Env) (df : List (FuncId × List D)) (dst : Option Tmp) (H : Heap) : D → Prop := fun d => K (PSt.next ⟨E, H, df⟩ dst d H)
@[simp] theorem nx_some (K : PSt → Prop) (E : Env) (df : List (FuncId × List D)) (t : Tmp) (H : Heap) (d : D) : nx K E df (some t) H d = K ⟨E.set t d, H, df⟩ := propext Iff.rfl
@[simp] theorem nx_none (K : PSt → Prop) (E : Env) (df : List (FuncId × List D)) (H : Heap) (d : D) : nx K E df none H d = K ⟨E, H, df⟩ := propext Iff.rfl
def nx2 (K : PSt → Prop) (E : Env) (df : List (FuncId × List D)) (dst : Option Tmp) : D × Heap → Prop := fun x => nx K E df dst x.2 x.1
@[simp] theorem nx2_at (K : PSt → Prop) (E : Env) (df : List (FuncId × List D)) (dst : Option Tmp) (d : D) (H : Heap) : nx2 K E df dst (d, H) = nx K E df dst H d := propext Iff.rfl
def nxU (K : PSt → Prop) (E : Env) (df : List (FuncId × List D)) (dst : Option Tmp) : Heap → Prop := fun H => nx K E df dst H (.val undef)
@[simp] theorem nxU_at (K : PSt → Prop) (E : Env) (df : List (FuncId × List D)) (dst : Option Tmp) (H : Heap) : nxU K E df dst H = nx K E df dst H (.val undef) := propext Iff.rfl
theorem pop_of {o : Op} (hc : isCall o = none) (hd : ∀ c, o ≠ .defer c) : popS P ⟨dst, o, ty, pos, after, gd⟩ st K = oK (eOp P o st.ev st.H) (nx2 K st.env st.df dst) := by
  have hs : eStep P ⟨dst, o, ty, pos, after, gd⟩ st = match eOp P o st.ev st.H with | some (d, H') => some (st.next dst d H') | none => none := by
    unfold eStep
    split
    · rename_i c e; exact absurd e (hd c)
    · rfl
  unfold popS
  simp only [hc, hs]
  have hnx : ∀ d H', st.next dst d H' = PSt.next ⟨st.env, H', st.df⟩ dst d H' := fun d H' => by cases dst <;> rfl
  cases eOp P o st.ev st.H with
  | none => rfl
  | some q => simp only [oK, nx2, nx, hnx]
theorem oK_atH {x : Option D} {H : Heap} {E : Env} {df : List (FuncId × List D)} : oK (atH H x) (nx2 K E df dst) = oK x (nx K E df dst H) := by cases x <;> rfl
theorem oK_atU {x : Option Heap} {E : Env} {df : List (FuncId × List D)} : oK (atU x) (nx2 K E df dst) = oK x (nxU K E df dst) := by cases x <;> rfl
@[simp ↓] theorem pop_move (x : Operand) : popS P ⟨dst, .move x, ty, pos, after, gd⟩ st K = nx K st.env st.df dst st.H (st.ev x) := by rw [pop_of rfl (fun c e => by cases e)]; rfl
@[simp ↓] theorem pop_assign (x : Operand) : popS P ⟨dst, .assign x, ty, pos, after, gd⟩ st K = nx K st.env st.df dst st.H (st.ev x) := by rw [pop_of rfl (fun c e => by cases e)]; rfl
@[simp ↓] theorem pop_pick (c x y : Operand) : popS P ⟨dst, .pick c x y, ty, pos, after, gd⟩ st K = oK (ePick (st.ev c) (st.ev x) (st.ev y)) (nx K st.env st.df dst st.H) := by rw [pop_of rfl (fun c e => by cases e)]; simp only [eOp, oK_atH, oK_atU]
@[simp ↓] theorem pop_unOp (o : UnOp) (t : TypeId) (x : Operand) : popS P ⟨dst, .unOp o t x, ty, pos, after, gd⟩ st K = oK (eUn o (st.ev x)) (nx K st.env st.df dst st.H) := by rw [pop_of rfl (fun c e => by cases e)]; simp only [eOp, oK_atH, oK_atU]
@[simp ↓] theorem pop_binOp (o : BinOp) (t : TypeId) (x y : Operand) (u : TypeId) : popS P ⟨dst, .binOp o t x y u, ty, pos, after, gd⟩ st K = ((isNilIfc (st.ev y) && !isConstO y) = false ∧ oK (eBin P o t (st.ev x) (st.ev y)) (nx K st.env st.df dst st.H)) := by
  rw [pop_of rfl (fun c e => by cases e)]
  simp only [eOp]
  cases isNilIfc (st.ev y) <;> cases isConstO y <;> simp [oK_atH]
@[simp ↓] theorem pop_convert (s d : TypeId) (x : Operand) : popS P ⟨dst, .convert s d x, ty, pos, after, gd⟩ st K = oK (eConvert P s d (st.ev x) st.H) (nx2 K st.env st.df dst) := by rw [pop_of rfl (fun c e => by cases e)]; simp only [eOp, oK_atH, oK_atU]
@[simp ↓] theorem pop_index (t : TypeId) (x i : Operand) : popS P ⟨dst, .index t x i, ty, pos, after, gd⟩ st K = oK (eIndex P t (st.ev x) (st.ev i)) (nx K st.env st.df dst st.H) := by rw [pop_of rfl (fun c e => by cases e)]; simp only [eOp, oK_atH, oK_atU]
@[simp ↓] theorem pop_indexAddr (t : TypeId) (x i : Operand) : popS P ⟨dst, .indexAddr t x i, ty, pos, after, gd⟩ st K = oK (eIndexAddr P t (st.ev x) (st.ev i)) (nx K st.env st.df dst st.H) := by rw [pop_of rfl (fun c e => by cases e)]; simp only [eOp, oK_atH, oK_atU]
@[simp ↓] theorem pop_slice (t : TypeId) (x : Operand) (lo hi : Option Operand) : popS P ⟨dst, .slice t x lo hi none, ty, pos, after, gd⟩ st K = oK (eSlice P t (st.ev x) (lo.map st.ev) (hi.map st.ev)) (nx K st.env st.df dst st.H) := by rw [pop_of rfl (fun c e => by cases e)]; simp only [eOp, oK_atH, oK_atU]
@[simp ↓] theorem pop_slice3 (t : TypeId) (x : Operand) (lo hi : Option Operand) (m : Operand) : popS P ⟨dst, .slice t x lo hi (some m), ty, pos, after, gd⟩ st K = oK (eSlice3 P t (st.ev x) (lo.map st.ev) (hi.map st.ev) (st.ev m)) (nx K st.env st.df dst st.H) := by rw [pop_of rfl (fun c e => by cases e)]; simp only [eOp, oK_atH, oK_atU]
@[simp ↓] theorem pop_field (t : TypeId) (x : Operand) (f : Nat) : popS P ⟨dst, .field t x f, ty, pos, after, gd⟩ st K = oK (eField P t (st.ev x) f) (nx K st.env st.df dst st.H) := by rw [pop_of rfl (fun c e => by cases e)]; simp only [eOp, oK_atH, oK_atU]
@[simp ↓] theorem pop_fieldAddr (t : TypeId) (x : Operand) (f : Nat) : popS P ⟨dst, .fieldAddr t x f, ty, pos, after, gd⟩ st K = oK (eFieldAddr P t (st.ev x) f) (nx K st.env st.df dst st.H) := by rw [pop_of rfl (fun c e => by cases e)]; simp only [eOp, oK_atH, oK_atU]
@[simp ↓] theorem pop_load (t : TypeId) (x : Operand) : popS P ⟨dst, .load t x, ty, pos, after, gd⟩ st K = oK (eLoad P t (st.ev x) st.H) (nx K st.env st.df dst st.H) := by rw [pop_of rfl (fun c e => by cases e)]; simp only [eOp, oK_atH, oK_atU]
@[simp ↓] theorem pop_store (t : TypeId) (p x : Operand) : popS P ⟨dst, .store t p x, ty, pos, after, gd⟩ st K = oK (eStore P t (st.ev p) (st.ev x) st.H) (nxU K st.env st.df dst) := by rw [pop_of rfl (fun c e => by cases e)]; simp only [eOp, oK_atH, oK_atU]
@[simp ↓] theorem pop_extract (x : Operand) (i : Nat) : popS P ⟨dst, .extract x i, ty, pos, after, gd⟩ st K = oK (eExtract (st.ev x) i) (nx K st.env st.df dst st.H) := by rw [pop_of rfl (fun c e => by cases e)]; simp only [eOp, oK_atH, oK_atU]
@[simp ↓] theorem pop_makeInterface (t : TypeId) (x : Operand) : popS P ⟨dst, .makeInterface t x, ty, pos, after, gd⟩ st K = oK (eMakeInterface P t (st.ev x)) (nx K st.env st.df dst st.H) := by rw [pop_of rfl (fun c e => by cases e)]; simp only [eOp, oK_atH, oK_atU]
@[simp ↓] theorem pop_makeFunc (fn : Fn) (a b : Array Operand) : popS P ⟨dst, .makeFunc fn a b, ty, pos, after, gd⟩ st K = nx K st.env st.df dst st.H (.clo fn (a.toList.map st.ev) (b.toList.map st.ev)) := by rw [pop_of rfl (fun c e => by cases e)]; rfl
@[simp ↓] theorem pop_nilCheck (x : Operand) : popS P ⟨dst, .nilCheck x, ty, pos, after, gd⟩ st K = oK (eNilCheck (st.ev x)) (nx K st.env st.df dst st.H) := by rw [pop_of rfl (fun c e => by cases e)]; simp only [eOp, oK_atH, oK_atU]
@[simp ↓] theorem pop_alloc (t : TypeId) : popS P ⟨dst, .alloc t, ty, pos, after, gd⟩ st K = oK (eAlloc P t st.H) (nx2 K st.env st.df dst) := by rw [pop_of rfl (fun c e => by cases e)]; simp only [eOp, oK_atH, oK_atU]
@[simp ↓] theorem pop_box (t : TypeId) (x : Operand) : popS P ⟨dst, .box t x, ty, pos, after, gd⟩ st K = oK (eBox (st.ev x) st.H) (nx2 K st.env st.df dst) := by rw [pop_of rfl (fun c e => by cases e)]; simp only [eOp, oK_atH, oK_atU]
@[simp ↓] theorem pop_build (t : TypeId) (ps : Array (Nat × Operand)) : popS P ⟨dst, .build t ps, ty, pos, after, gd⟩ st K = oK (eBuild P t (ps.toList.map fun p => (p.1, st.ev p.2))) (nx K st.env st.df dst st.H) := by rw [pop_of rfl (fun c e => by cases e)]; simp only [eOp, oK_atH, oK_atU]
@[simp ↓] theorem pop_buildSlice (t : TypeId) (n : Nat) (ps : Array (Nat × Operand)) : popS P ⟨dst, .buildSlice t n ps, ty, pos, after, gd⟩ st K = oK (eBuildSlice P t n (ps.toList.map fun p => (p.1, st.ev p.2)) st.H) (nx2 K st.env st.df dst) := by rw [pop_of rfl (fun c e => by cases e)]; simp only [eOp, oK_atH, oK_atU]
@[simp ↓] theorem pop_makeSlice (t : TypeId) (n c : Operand) : popS P ⟨dst, .makeSlice t n c, ty, pos, after, gd⟩ st K = oK (eMakeSlice P t (st.ev n) (st.ev c) st.H) (nx2 K st.env st.df dst) := by rw [pop_of rfl (fun c e => by cases e)]; simp only [eOp, oK_atH, oK_atU]
@[simp ↓] theorem pop_makeMap (t : TypeId) : popS P ⟨dst, .makeMap t none, ty, pos, after, gd⟩ st K = nx K st.env st.df dst (st.H.new (.map [])) (.mp st.H.nx) := by rw [pop_of rfl (fun c e => by cases e)]; rfl
@[simp ↓] theorem pop_lookup (t : TypeId) (m k : Operand) (ok : Bool) : popS P ⟨dst, .lookup t m k ok, ty, pos, after, gd⟩ st K = oK (eLookup P t (st.ev m) (st.ev k) ok st.H) (nx K st.env st.df dst st.H) := by rw [pop_of rfl (fun c e => by cases e)]; simp only [eOp, oK_atH, oK_atU]
@[simp ↓] theorem pop_mapUpdate (t : TypeId) (m k d : Operand) : popS P ⟨dst, .mapUpdate t m k d, ty, pos, after, gd⟩ st K = oK (eMapUpdate P t (st.ev m) (st.ev k) (st.ev d) st.H) (nxU K st.env st.df dst) := by rw [pop_of rfl (fun c e => by cases e)]; simp only [eOp, oK_atH, oK_atU]
@[simp ↓] theorem pop_typeAssert (x : Operand) (xt t : TypeId) (ok : Bool) : popS P ⟨dst, .typeAssert x xt t ok, ty, pos, after, gd⟩ st K = oK (eTypeAssert P (st.ev x) xt t ok) (nx K st.env st.df dst st.H) := by rw [pop_of rfl (fun c e => by cases e)]; simp only [eOp, oK_atH, oK_atU]
@[simp ↓] theorem pop_builtin (b : Builtin) (args : Array Operand) (ts : Array TypeId) : popS P ⟨dst, .call ⟨.builtin b, args, ts⟩, ty, pos, after, gd⟩ st K = oK (eBuiltin P b ts.toList (args.toList.map st.ev) st.H) (nx2 K st.env st.df dst) := by rw [pop_of rfl (fun c e => by cases e)]; simp only [eOp, oK_atH, oK_atU]
/-- A call, by what is known of it. -/
def callK (P : Program) (x : Option (FuncId × List D)) (H : Heap) (K : D × Heap → Prop) : Prop := match x with
  | some (g, ds) => PCalls P g ds H fun d H' => K (d, H')
  | none => False
@[simp] theorem callK_some (g : FuncId) (ds : List D) (H : Heap) (K : D × Heap → Prop) : callK P (some (g, ds)) H K = PCalls P g ds H fun d H' => K (d, H') := propext Iff.rfl
@[simp ↓] theorem pop_call (f : Operand) (args : Array Operand) (ts : Array TypeId) : popS P ⟨dst, .call ⟨.value f, args, ts⟩, ty, pos, after, gd⟩ st K = callK P (callVal st.ev ⟨.value f, args, ts⟩ f) st.H (nx2 K st.env st.df dst) := by
  have hnx : ∀ d H', st.next dst d H' = PSt.next ⟨st.env, H', st.df⟩ dst d H' := fun d H' => by cases dst <;> rfl
  unfold popS callK
  simp only [isCall, callOf]
  cases callVal st.ev ⟨.value f, args, ts⟩ f with
  | none => rfl
  | some q => simp only [nx2, nx, hnx]
@[simp ↓] theorem pop_invoke (r : Operand) (name : String) (args : Array Operand) (ts : Array TypeId) : popS P ⟨dst, .call ⟨.invoke r name, args, ts⟩, ty, pos, after, gd⟩ st K = callK P (callOf P st.ev ⟨.invoke r name, args, ts⟩) st.H (nx2 K st.env st.df dst) := by
  have hnx : ∀ d H', st.next dst d H' = PSt.next ⟨st.env, H', st.df⟩ dst d H' := fun d H' => by cases dst <;> rfl
  unfold popS callK
  simp only [isCall]
  cases callOf P st.ev ⟨.invoke r name, args, ts⟩ with
  | none => rfl
  | some q => simp only [nx2, nx, hnx]
variable {ops : Array Oper} {op : Op} {rest : List Oper} {j : Nat} {b : Bool}
def nextK (P : Program) (ops : Array Oper) (rest : List Oper) (K : PSt → Prop) : PSt → Prop := fun st => pops P ops rest K st
@[simp] theorem nextK_app (st : PSt) : nextK P ops rest K st = pops P ops rest K st := propext Iff.rfl
@[simp ↓] theorem pops_nil : pops P ops [] K st = K st := propext Iff.rfl
@[simp ↓] theorem pops_plain : pops P ops (⟨dst, op, ty, pos, after, none⟩ :: rest) K st = popS P ⟨dst, op, ty, pos, after, none⟩ st (nextK P ops rest K) := propext Iff.rfl
theorem popS_guard : popS P ⟨dst, op, ty, pos, after, gd⟩ st K = popS P ⟨dst, op, ty, pos, after, none⟩ st K := by
  unfold popS eStep
  rfl
@[simp ↓] theorem pops_taken (h : guardD ops st j = some (some b)) : pops P ops (⟨dst, op, ty, pos, after, some (j, b)⟩ :: rest) K st = popS P ⟨dst, op, ty, pos, after, none⟩ st (nextK P ops rest K) := by
  rw [← popS_guard (gd := some (j, b))]
  simp only [pops, h, if_true]
  rfl
@[simp ↓] theorem pops_passed (h : guardD ops st j = some (some (!b))) : pops P ops (⟨dst, op, ty, pos, after, some (j, b)⟩ :: rest) K st = pops P ops rest K (st.put dst (.val undef)) := by
  have : ¬ ((!b) = b) := by cases b <;> simp
  simp only [pops, h, this, if_false]
@[simp ↓] theorem pops_none (h : guardD ops st j = some none) : pops P ops (⟨dst, op, ty, pos, after, some (j, b)⟩ :: rest) K st = pops P ops rest K (st.put dst (.val undef)) := by
  simp only [pops, h]
@[simp] theorem put_some (E : Env) (H : Heap) (df : List (FuncId × List D)) (t : Nat) (d : D) : PSt.put ⟨E, H, df⟩ (some t) d = ⟨E.set t d, H, df⟩ := plain _
@[simp] theorem put_none (E : Env) (H : Heap) (df : List (FuncId × List D)) (d : D) : PSt.put ⟨E, H, df⟩ none d = ⟨E, H, df⟩ := plain _
end
attribute [simp] Env.get_set Env.set_n initEnv_get
@[simp] theorem initEnv_n (m : Nat) (ds : List D) : (initEnv m ds).n = m := rfl
attribute [simp] boolOf isBoolD undef PSt.ev ofZero ofVal eBin eInt eFloat eStr eEq isNilD isNilP isNilM isNilI isNilF nilKind isNilOf eqCells eqCell eUn eIndex eField eFieldAddr eIndexAddr eLoad eExtract eBounds eSlice eSlice3 subArr subRow eConvert eMakeInterface
  eNilCheck eAppend eBuild eMakeSlice eAlloc eStore eLen eSliceData eUnsafeString guardD ePart isAggT updD resultsE result1 tupD retPost Value.oneCell' isNilIfc isConstO callVal eBuiltin atH atU ePick eBox news elems onto isSliceD runDefers
@[simp] theorem cellsD_val (v : Value) : cellsD (.val v) = [.val v] := rfl
@[simp] theorem oneD_val (v : Value) : oneD (.val v) = v.oneCell' := rfl
@[simp] theorem okPart_val (v : Value) : okPart (.val v) = v.oneCell' := rfl
@[simp] theorem cellsD_slice (g : Nat) (e : TypeId) (l : List D) : cellsD (.slice g e l) = [.slice g e l] := rfl
@[simp] theorem oneD_slice (g : Nat) (e : TypeId) (l : List D) : oneD (.slice g e l) = true := rfl
@[simp] theorem okPart_slice (g : Nat) (e : TypeId) (l : List D) : okPart (.slice g e l) = true := rfl
@[simp] theorem cellsD_arr (i : Nat) (e : TypeId) (o n : Nat) : cellsD (.arr i e o n) = [.arr i e o n] := rfl
@[simp] theorem oneD_arr (i : Nat) (e : TypeId) (o n : Nat) : oneD (.arr i e o n) = true := rfl
@[simp] theorem okPart_arr (i : Nat) (e : TypeId) (o n : Nat) : okPart (.arr i e o n) = true := rfl
@[simp] theorem cellsD_row (i : Nat) (e : TypeId) (o n : Nat) : cellsD (.row i e o n) = [.row i e o n] := rfl
@[simp] theorem oneD_row (i : Nat) (e : TypeId) (o n : Nat) : oneD (.row i e o n) = true := rfl
@[simp] theorem okPart_row (i : Nat) (e : TypeId) (o n : Nat) : okPart (.row i e o n) = true := rfl
@[simp] theorem cellsD_ptr (i o : Nat) : cellsD (.ptr i o) = [.ptr i o] := rfl
@[simp] theorem oneD_ptr (i o : Nat) : oneD (.ptr i o) = true := rfl
@[simp] theorem okPart_ptr (i o : Nat) : okPart (.ptr i o) = true := rfl
@[simp] theorem cellsD_rptr (i : Nat) (e : TypeId) (k c : Nat) : cellsD (.rptr i e k c) = [.rptr i e k c] := rfl
@[simp] theorem oneD_rptr (i : Nat) (e : TypeId) (k c : Nat) : oneD (.rptr i e k c) = true := rfl
@[simp] theorem okPart_rptr (i : Nat) (e : TypeId) (k c : Nat) : okPart (.rptr i e k c) = true := rfl
@[simp] theorem cellsD_obj (cs : List D) (o : Nat) : cellsD (.obj cs o) = [.obj cs o] := rfl
@[simp] theorem oneD_obj (cs : List D) (o : Nat) : oneD (.obj cs o) = true := rfl
@[simp] theorem okPart_obj (cs : List D) (o : Nat) : okPart (.obj cs o) = true := rfl
@[simp] theorem cellsD_ifc (t : TypeId) (d : D) : cellsD (.ifc t d) = [.ifc t d] := rfl
@[simp] theorem oneD_ifc (t : TypeId) (d : D) : oneD (.ifc t d) = true := rfl
@[simp] theorem okPart_ifc (t : TypeId) (d : D) : okPart (.ifc t d) = true := rfl
@[simp] theorem cellsD_mp (i : Nat) : cellsD (.mp i) = [.mp i] := rfl
@[simp] theorem oneD_mp (i : Nat) : oneD (.mp i) = true := rfl
@[simp] theorem okPart_mp (i : Nat) : okPart (.mp i) = true := rfl
@[simp] theorem cellsD_clo (f : Fn) (a b : List D) : cellsD (.clo f a b) = [.clo f a b] := rfl
@[simp] theorem oneD_clo (f : Fn) (a b : List D) : oneD (.clo f a b) = true := rfl
@[simp] theorem okPart_clo (f : Fn) (a b : List D) : okPart (.clo f a b) = true := rfl
@[simp] theorem cellsD_agg (cs : List D) : cellsD (.agg cs) = cs := rfl
@[simp] theorem oneD_agg (cs : List D) : oneD (.agg cs) = false := rfl
@[simp] theorem okPart_agg (cs : List D) : okPart (.agg cs) = cs.all oneD := rfl
@[simp] theorem cellsD_undef  : cellsD .undef = [.undef] := rfl
@[simp] theorem oneD_undef  : oneD .undef = false := rfl
@[simp] theorem okPart_undef  : okPart .undef = false := rfl

/-! ### A call that holds nothing of the caller's -/
/-- All memory, known as it stands. -/
def ghOf (W : World) : Gh := ⟨fun a v => W.cell? a = some v ∧ v.oneCell' = true, fun _ => none⟩
def noHeap (G : Nat → Option (List D)) : Heap := ⟨.nil, 0, G⟩
theorem noHeap_get (G : Nat → Option (List D)) (i : Nat) : (noHeap G).get i = none := rfl
/-- All that is there is not to be touched. -/
def protAll (W : World) (Γ : Gh) : Prot := ⟨fun k => k < W.heap.size, Γ.K⟩
theorem rel_start (P : Program) (W : World) (G : Nat → Option (List D)) (hG : GlobOf P (ghOf W) G) : Rel P (protAll W (ghOf W)) W (ghOf W) (noHeap G) W where
  below := Kept.refl _ _
  size := fun _ h => h
  know := fun _ _ h => h
  obj := fun i o h => by cases h
  sep := fun i o x h => by cases h
  inj := fun i j o p x y h => by cases h
  fresh := fun i _ => rfl
  glob := hG
  prot := fun _ _ h _ => h
/-! ### Values that lead to no object of the call's own -/
inductive Pure : D → Prop
  | undef : Pure .undef
  | val (v : Value) : Pure (.val v)
  | slice (g : Nat) (e : TypeId) (l : List D) (h : ∀ d ∈ flat l, Pure d) : Pure (.slice g e l)
  | agg (cs : List D) (h : ∀ d ∈ cs, Pure d) : Pure (.agg cs)
  | tup (cs : List D) (h : ∀ d ∈ cs, Pure d) : Pure (.tup cs)
  | obj (cs : List D) (off : Nat) (h : ∀ d ∈ cs, Pure d) : Pure (.obj cs off)
  | clo (fn : Fn) (a b : List D) (h1 : ∀ d ∈ a, Pure d) (h2 : ∀ d ∈ b, Pure d) : Pure (.clo fn a b)
  | ifc (t : TypeId) (d : D) (h : Pure d) : Pure (.ifc t d)
theorem Rep.drop {P : Program} {Γ : Gh} (g : Nat → Option Gi) {d : D} {v : Value} (h : Rep P Γ d v) (hp : Pure d) : Rep P ⟨Γ.K, g⟩ d v := by
  induction h with
  | undef v => exact .undef v
  | val v => exact .val v
  | nil e => exact .nil e
  | slice g e l a ad cap vs hg h2 h3 hc hm ha hs hk hr ih =>
    cases hp with
    | slice _ _ _ hq => exact .slice g e l a ad cap vs hg h2 h3 hc hm ha hs hk fun i d hi => ih i d hi (hq d (List.mem_of_getElem? hi))
  | arr i e off len x cap hb hc hm => cases hp
  | row i e off len x hb he hc hm => cases hp
  | agg cs vs hl hr ih =>
    cases hp with
    | agg _ hq => exact .agg cs vs hl fun i d v hd hv => ih i d v hd hv (hq d (List.mem_of_getElem? hd))
  | tup cs vs hl hr ih =>
    cases hp with
    | tup _ hq => exact .tup cs vs hl fun i d v hd hv => ih i d v hd hv (hq d (List.mem_of_getElem? hd))
  | ptr i off x hb => cases hp
  | rptr i e k c x hb he => cases hp
  | obj cs off ad vs hk hr ih =>
    cases hp with
    | obj _ _ hq => exact .obj cs off ad vs hk fun i d hi => ih i d hi (hq d (List.mem_of_getElem? hi))
  | clo fn first cap v1 v2 h1 h2 r1 r2 i1 i2 =>
    cases hp with
    | clo _ _ _ q1 q2 => exact .clo fn first cap v1 v2 h1 h2 (fun i d v hd hv => i1 i d v hd hv (q1 d (List.mem_of_getElem? hd))) (fun i d v hd hv => i2 i d v hd hv (q2 d (List.mem_of_getElem? hd)))
  | ifc t d v h ih =>
    cases hp with
    | ifc _ _ hq => exact .ifc t d v (ih hq)
  | mp i x hb => cases hp
/-- A call that is handed, and hands back, nothing of the caller's own: known in an empty heap, in any other. -/
theorem PCalls.lift {P : Program} {f : FuncId} {ds : List D} {r : D} {G : Nat → Option (List D)} (h : PCalls P f ds (noHeap G) fun d _ => d = r) (hds : ∀ d ∈ ds, Pure d) (hr : Pure r) (hP : ∀ g cs, G g = some cs → ∀ d ∈ cs, Pure d)
    {H : Heap} (hG : H.G = G) : PCalls P f ds H fun d H' => d = r ∧ H' = H := by
  intro base w0 Γ w args hR hA
  have hlift : ∀ d v, Pure d → Rep P Γ d v → Rep P ⟨Γ.K, fun _ => none⟩ d v := fun d v hp hv => hv.drop _ hp
  have hS : Rel P (protAll w Γ) w ⟨Γ.K, fun _ => none⟩ (noHeap G) w := {
    below := Kept.refl _ _
    size := fun _ h => h
    know := hR.know
    obj := fun i o h => by cases h
    sep := fun i o x h => by cases h
    inj := fun i j o p x y h => by cases h
    fresh := fun i _ => rfl
    glob := fun g cs hg j d hj => by
      obtain ⟨v, hv, hrv⟩ := hR.glob g cs (by rw [hG]; exact hg) j d hj
      exact ⟨v, hv, hlift _ _ (hP g cs hg d (List.mem_of_getElem? hj)) hrv⟩
    prot := fun _ _ h _ => h }
  refine (h _ w _ w args hS ⟨hA.1, fun i d v hd hv => hlift _ _ (hds d (List.mem_of_getElem? hd)) (hA.2 i d v hd hv)⟩).mono ?_
  rintro u w' ⟨Γ', H', d, x1, x2, x3, rfl⟩
  have hin : ∀ a v, Γ'.K a v → a.block < w.heap.size → Γ.K a v := x2.prot
  refine ⟨⟨Γ'.K, Γ.g⟩, H, d, ⟨x1.K, fun _ _ h => h⟩, ?_, x3.drop _ hr, rfl, rfl⟩
  have hle : Γ.le ⟨Γ'.K, Γ.g⟩ := ⟨x1.K, fun _ _ h => h⟩
  exact {
    below := hR.below.trans ⟨x2.below.os, x2.below.tape, x2.below.output, x2.below.size, fun k hk => x2.below.block k (hR.size k hk)⟩
    size := fun k hk => Nat.lt_of_lt_of_le (hR.size k hk) x2.below.size
    know := x2.know
    obj := fun i o hi => by
      obtain ⟨x, hx, h1, h2⟩ := hR.obj i o hi
      exact ⟨x, hx, h1, by rw [x2.below.block x.b (hR.objAt hi hx).2.1]; exact h2.mono hle⟩
    sep := fun i o x hi hx a v k e => by
      have hlt := (hR.objAt hi hx).2.1
      exact hR.sep i o x hi hx a v (hin a v k (by rw [e]; exact hlt)) e
    inj := hR.inj
    fresh := hR.fresh
    glob := hR.glob.mono hle
    prot := fun a v k hs => hR.prot a v (hin a v k (hR.size _ hs)) hs }
theorem PCalls.alone {P : Program} {f : FuncId} {vs : List Value} {v : Value} (h : PCalls P f (vs.map D.val) (noHeap fun _ => none) fun d _ => d = .val v) (H : Heap) : PCalls P f (vs.map D.val) H fun d H' => d = .val v ∧ H' = H := by
  intro base w0 Γ w args hR hA
  refine ((h.lift (H := { H with G := fun _ => none }) (fun d hd => by obtain ⟨x, _, rfl⟩ := List.mem_map.1 hd; exact .val x) (.val v) (fun g cs hg => by cases hg) rfl) base w0 Γ w args (hR.sub (fun i o h => h) (Nat.le_refl _) (fun g cs hg => by cases hg)) hA).mono ?_
  rintro u w' ⟨Γ', H', d, x1, x2, x3, rfl, rfl⟩
  refine ⟨Γ', H, _, x1, ?_, x3, rfl, rfl⟩
  exact { below := x2.below, size := x2.size, know := x2.know, obj := x2.obj, sep := x2.sep, inj := x2.inj, fresh := x2.fresh, glob := hR.glob.mono x1, prot := x2.prot }
/-- From the walk of a law's function to its run. -/
theorem law_frame {P : Program} {f : FuncId} {ds : List D} {args : List Value} {W : World} {G : Nat → Option (List D)} (hG : GlobOf P (ghOf W) G) (hc : ∀ args w, (callFunc f args).run P w = .ok (.enter f args) w)
    (h : PCalls P f ds (noHeap G) fun d _ => d = .val (.bool true)) (hA : RepAll P (ghOf W) ds args) : Calls P f args.toArray W fun e W' => e = .returned (.bool true) ∧ Below W.heap.size W W' := by
  have := h _ W (ghOf W) W args (rel_start P W G hG) hA
  rw [hc] at this
  refine Calls.mono this ?_
  rintro e W' ⟨v, rfl, Γ', H', d, x1, x2, x3, rfl⟩
  exact ⟨by rw [rep_val x3], ⟨x2.below.os, x2.below.tape, x2.below.output, x2.below.size, fun k hk => x2.below.block k hk⟩⟩
end Go.Pv
