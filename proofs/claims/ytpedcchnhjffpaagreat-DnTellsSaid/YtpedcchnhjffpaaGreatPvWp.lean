/- One operation, and calls by their contracts. -/
import Derived.Test.YtpedcchnhjffpaaGreatPvSound6
import Derived.Tactics
import Derived.Orders
namespace Go.Pv
open Go.RowKit

/-! ### Methods behind interfaces -/
def eFollow (P : Program) : List FieldStep → TypeId → D → Option (TypeId × D)
  | [], t, x => some (t, x)
  | s :: rest, t, x => match s.deref, P.underlying s.struct, x with
    | false, some (.struct fs), .agg cs => match fs[s.index]? with
      | some f => match ePart P f.type cs f.offset with
        | some y => eFollow P rest f.type y
        | none => none
      | none => none
    | _, _, _ => none
def eMethod (P : Program) (t : TypeId) (x : D) (name : String) : Option (FuncId × D) :=
  match P.info? t with
  | some i => match i.methods.find? (·.name == name) with
    | some m => match eFollow P m.path.toList t x, m.func with
      | some (xt, y), some (f, b) => match P.underlying xt, b with
        | some (.pointer _), true => some (f, y)
        | some (.pointer _), false => none
        | some _, false => some (f, y)
        | _, _ => none
      | _, _ => none
    | none => none
  | none => none

/-! ### Calls -/
/-- What a call of a function leads to: a value, or a value behind a run. -/
def Lands (P : Program) (r : Result Next) (R : Value → World → Prop) : Prop :=
  match r with
  | .ok (.value v) w => R v w
  | .ok (.enter f args) w => Calls P f args w fun e w' => ∃ v, e = .returned v ∧ R v w'
  | _ => False
theorem Lands.mono {P : Program} {r : Result Next} {R R' : Value → World → Prop} (h : Lands P r R) (hr : ∀ v w, R v w → R' v w) : Lands P r R' := by
  unfold Lands at *
  split at h
  · exact hr _ _ h
  · exact h.mono fun e w' ⟨v, h1, h2⟩ => ⟨v, h1, hr _ _ h2⟩
  · exact h.elim
/-- A call of function f with ds, in the heap H, returns; R of what it hands back. -/
def PCalls (P : Program) (f : FuncId) (ds : List D) (H : Heap) (R : D → Heap → Prop) : Prop :=
  ∀ base w0 Γ w args, Rel P base w0 Γ H w → RepAll P Γ ds args →
    Lands P ((callFunc f args.toArray).run P w) fun v w' => ∃ Γ' H' d, Γ.le Γ' ∧ Rel P base w0 Γ' H' w' ∧ Rep P Γ' d v ∧ R d H'
theorem PCalls.mono {P : Program} {f : FuncId} {ds : List D} {H : Heap} {R R' : D → Heap → Prop} (h : PCalls P f ds H R) (hr : ∀ d H', R d H' → R' d H') : PCalls P f ds H R' :=
  fun base w0 Γ w args hR hA => (h base w0 Γ w args hR hA).mono fun v w' ⟨Γ', H', d, x2, x3, x4, x5⟩ => ⟨Γ', H', d, x2, x3, x4, hr _ _ x5⟩
/-- The same, of a call that was put off. -/
def DCalls (P : Program) (f : FuncId) (ds : List D) (H : Heap) (R : Heap → Prop) : Prop :=
  (∀ args w, (callFunc f args).run P w = .ok (.enter f args) w) ∧
  ∀ base w0 Γ w args, Rel P base w0 Γ H w → RepAll P Γ ds args →
    CallsD P f args.toArray .returning w fun e u w' => u = .returning ∧ ∃ v Γ' H', e = .returned v ∧ Γ.le Γ' ∧ Rel P base w0 Γ' H' w' ∧ R H'

def callVal (ρ : Operand → D) (c : Call) (f : Operand) : Option (FuncId × List D) :=
  match ρ f with
  | .val (.func (.func g) ⟨[]⟩ ⟨[]⟩) => some (g, c.args.toList.map ρ)
  | .clo (.func g) first cap => some (g, first ++ c.args.toList.map ρ ++ cap)
  | _ => none
def callOf (P : Program) (ρ : Operand → D) (c : Call) : Option (FuncId × List D) :=
  match c.callee with
  | .value f => callVal ρ c f
  | .invoke r name => match ifcOf (ρ r) with
    | some (t, x) => match eMethod P t x name with
      | some (g, y) => some (g, y :: c.args.toList.map ρ)
      | none => none
    | none => none
  | .builtin _ => none
def isCall : Op → Option Call
  | .call c => match c.callee with
    | .builtin _ => none
    | _ => some c
  | _ => none

/-! ### Operations that call nothing -/
def atH (H : Heap) : Option D → Option (D × Heap)
  | some d => some (d, H)
  | none => none
def atU : Option Heap → Option (D × Heap)
  | some H => some (.val undef, H)
  | none => none
def eBuiltin (P : Program) (b : Builtin) (ts : List TypeId) (args : List D) (H : Heap) : Option (D × Heap) :=
  match b, args, ts with
  | .len, [x], [t] => atH H (eLen P t x H)
  | .append, [s, x], [t, u] => eAppend P t u s x H
  | .delete, [m, k], [t, _] => atU (eDelete P t m k H)
  | .clear, [x], [t] => atU (eClear P t x H)
  | .min, args, _ => atH H (eMinMax false (args.length + 1) args)
  | .max, args, _ => atH H (eMinMax true (args.length + 1) args)
  | .unsafeSliceData, [x], _ => atH H (eSliceData H x)
  | .unsafeString, [p, n], [pt, _] => eUnsafeString P pt p n H
  | _, _, _ => none
def isConstO : Operand → Bool
  | .const _ => true
  | _ => false
def isNilIfc : D → Bool
  | .val .nilIface => true
  | _ => false
def eOp (P : Program) (op : Op) (ρ : Operand → D) (H : Heap) : Option (D × Heap) :=
  match op with
  | .move x | .assign x => some (ρ x, H)
  | .pick c a b => atH H (ePick (ρ c) (ρ a) (ρ b))
  | .binOp op t x y _ => if isNilIfc (ρ y) = true ∧ isConstO y = false then none else atH H (eBin P op t (ρ x) (ρ y))
  | .unOp op _ x => atH H (eUn op (ρ x))
  | .convert s d x => eConvert P s d (ρ x) H
  | .index t x i => atH H (eIndex P t (ρ x) (ρ i))
  | .indexAddr t x i => atH H (eIndexAddr P t (ρ x) (ρ i))
  | .slice t x lo hi none => atH H (eSlice P t (ρ x) (lo.map ρ) (hi.map ρ))
  | .slice t x lo hi (some m) => atH H (eSlice3 P t (ρ x) (lo.map ρ) (hi.map ρ) (ρ m))
  | .field t x f => atH H (eField P t (ρ x) f)
  | .fieldAddr t x f => atH H (eFieldAddr P t (ρ x) f)
  | .load t x => atH H (eLoad P t (ρ x) H)
  | .store t p x => atU (eStore P t (ρ p) (ρ x) H)
  | .extract x i => atH H (eExtract (ρ x) i)
  | .makeInterface t x => atH H (eMakeInterface P t (ρ x))
  | .makeFunc fn first cap => some (.clo fn (first.toList.map ρ) (cap.toList.map ρ), H)
  | .nilCheck x => atH H (eNilCheck (ρ x))
  | .alloc t => eAlloc P t H
  | .box _ x => eBox (ρ x) H
  | .build t ps => atH H (eBuild P t (ps.toList.map fun p => (p.1, ρ p.2)))
  | .buildSlice t n ps => eBuildSlice P t n (ps.toList.map fun p => (p.1, ρ p.2)) H
  | .makeSlice t n c => eMakeSlice P t (ρ n) (ρ c) H
  | .makeMap _ none => some (.mp H.nx, H.new (.map []))
  | .lookup t m k ok => atH H (eLookup P t (ρ m) (ρ k) ok H)
  | .mapUpdate t m k d => atU (eMapUpdate P t (ρ m) (ρ k) (ρ d) H)
  | .typeAssert x xt t ok => atH H (eTypeAssert P (ρ x) xt t ok)
  | .call c => match c.callee with
    | .builtin b => eBuiltin P b c.argTypes.toList (c.args.toList.map ρ) H
    | _ => none
  | _ => none
def PSt.next (st : PSt) (dst : Option Tmp) (d : D) (H : Heap) : PSt := { st.put dst d with H := H }
def eStep (P : Program) (o : Oper) (st : PSt) : Option PSt :=
  match o.op with
  | .defer c => match c.callee with
    | .value f => match callVal st.ev c f with
      | some p => some { st.put o.dst (.val undef) with df := p :: st.df }
      | none => none
    | _ => none
  | op => match eOp P op st.ev st.H with
    | some (d, H') => some (st.next o.dst d H')
    | none => none
/-- One operation. -/
def popS (P : Program) (o : Oper) (st : PSt) (K : PSt → Prop) : Prop :=
  match isCall o.op with
  | some c => match callOf P st.ev c with
    | some (g, ds) => PCalls P g ds st.H fun d H' => K (st.next o.dst d H')
    | none => False
  | none => match eStep P o st with
    | some st' => K st'
    | none => False

/-- The calls that are put off. -/
def DefRep (P : Program) (Γ : Gh) (df : List (FuncId × List D)) (ds : List Deferred) : Prop :=
  df.length = ds.length ∧ ∀ (i : Nat) f xs d, df[i]? = some (f, xs) → ds[i]? = some d → ∃ cap, d.target = .fn (.func f) cap ∧ RepAll P Γ xs (d.args.toList ++ cap.toList)
structure StRep (P : Program) (Γ : Gh) (st : PSt) (a : Act) : Prop where
  env : EnvRep P Γ st.env a.tmps
  df : DefRep P Γ st.df a.defers

theorem RepAll.mono {P : Program} {Γ Γ' : Gh} {ds : List D} {vs : List Value} (h : RepAll P Γ ds vs) (hle : Γ.le Γ') : RepAll P Γ' ds vs := ⟨h.1, fun i d v hd hv => (h.2 i d v hd hv).mono hle⟩
theorem DefRep.mono {P : Program} {Γ Γ' : Gh} {df : List (FuncId × List D)} {ds : List Deferred} (h : DefRep P Γ df ds) (hle : Γ.le Γ') : DefRep P Γ' df ds :=
  ⟨h.1, fun i f xs d hi hd => (h.2 i f xs d hi hd).imp fun cap hc => ⟨hc.1, hc.2.mono hle⟩⟩
theorem StRep.mono {P : Program} {Γ Γ' : Gh} {st : PSt} {a : Act} (h : StRep P Γ st a) (hle : Γ.le Γ') : StRep P Γ' st a := ⟨h.env.mono hle, h.df.mono hle⟩

section
variable {P : Program} {base : Prot} {w0 : World} {Γ : Gh} {w : World} {st : PSt} {a : Act}

theorem put_df (st : PSt) (dst : Option Tmp) (d : D) : (st.put dst d).df = st.df := by cases dst <;> rfl
theorem put_H (st : PSt) (dst : Option Tmp) (d : D) : (st.put dst d).H = st.H := by cases dst <;> rfl
theorem actPut_defers (a : Act) (d : Option Tmp) (v : Value) : (a.put d v).defers = a.defers := by cases d <;> rfl
theorem actPut_size (a : Act) (d : Option Tmp) (v : Value) : (a.put d v).tmps.size = a.tmps.size := by cases d <;> simp [Act.put]
theorem StRep.put (h : StRep P Γ st a) {dst : Option Tmp} {d : D} {v : Value} (hr : Rep P Γ d v) : StRep P Γ (st.put dst d) (a.put dst v) :=
  ⟨h.env.put hr, by rw [put_df, actPut_defers]; exact h.df⟩
theorem StRep.next (h : StRep P Γ st a) {dst : Option Tmp} {d : D} {v : Value} (hr : Rep P Γ d v) (H' : Heap) : StRep P Γ (st.next dst d H') (a.put dst v) := ⟨(h.put hr).env, (h.put hr).df⟩

theorem RepAll.ofOps (h : EnvRep P Γ st.env a.tmps) (xs : List Operand) : RepAll P Γ (xs.map st.ev) (xs.map a.eval) := by
  refine ⟨by simp, fun i d v hd hv => ?_⟩
  simp only [List.getElem?_map] at hd hv
  cases hx : xs[i]? with
  | none => simp [hx] at hd
  | some x =>
    simp [hx] at hd hv
    subst hd; subst hv
    exact h.ev x
theorem toList_map_toArray {α β : Type} (f : α → β) (x : Array α) : (x.toList.map f).toArray = x.map f := by apply Array.ext'; simp

theorem follow_run : ∀ (path : List FieldStep) (t xt : TypeId) (x y : D) (v : Value), Rep P Γ x v → eFollow P path t x = some (xt, y) → ∃ u, (follow path t (.val v)).run P w = .ok (xt, .val u) w ∧ Rep P Γ y u
  | [], t, xt, x, y, v, hx, h => by
    simp only [eFollow, Option.some.injEq, Prod.mk.injEq] at h
    obtain ⟨rfl, rfl⟩ := h
    exact ⟨v, rfl, hx⟩
  | s :: rest, t, xt, x, y, v, hx, h => by
    simp only [eFollow] at h
    split at h
    case h_2 => cases h
    rename_i fs cs hsd hu
    split at h
    case h_2 => cases h
    rename_i f hf
    split at h
    case h_2 => cases h
    rename_i z hz
    obtain ⟨vs, rfl, hr⟩ := RepAll.ofAgg hx
    obtain ⟨u, h1, h2⟩ := part_still (w := w) hr hz
    obtain ⟨u', h3, h4⟩ := follow_run rest f.type xt z y u h2 h
    refine ⟨u', ?_, h4⟩
    simp only [follow, Sem.run_bind, run_underlying hu, Result.andThen_ok, hf, hsd, Bool.false_eq_true, if_false, h1]
    exact h3
theorem method_run {t : TypeId} {x y : D} {v : Value} {name : String} {g : FuncId} (hx : Rep P Γ x v) (h : eMethod P t x name = some (g, y)) : ∃ u, ∀ n, (method (n + 1) t v name).run P w = .ok (g, u) w ∧ Rep P Γ y u := by
  unfold eMethod at h
  split at h
  case h_2 => cases h
  rename_i i hi
  split at h
  case h_2 => cases h
  rename_i m hm
  split at h
  case h_2 => cases h
  rename_i xt z f b hfo hfn
  obtain ⟨u, h1, h2⟩ := follow_run (w := w) _ _ _ _ _ _ hx hfo
  have hti : (typeInfo t).run P w = .ok i w := by simp [typeInfo, hi]
  split at h
  · rename_i e hu
    cases h
    refine ⟨u, fun n => ⟨?_, h2⟩⟩
    simp only [method, Sem.run_bind, hti, Result.andThen_ok, hm, h1, hfn, receiverAt, run_underlying hu, Place.get, Sem.run_pure]
  · cases h
  · rename_i k hk hu
    cases h
    refine ⟨u, fun n => ⟨?_, h2⟩⟩
    simp only [method, Sem.run_bind, hti, Result.andThen_ok, hm, h1, hfn, receiverAt, run_underlying hu, Place.get, Sem.run_pure]
  · cases h

/-- A call, as the model makes it. -/
theorem call_run {c : Call} {o : Oper} {g : FuncId} {ds : List D} (ho : o.op = .call c) (hE : EnvRep P Γ st.env a.tmps) (h : callOf P st.ev c = some (g, ds)) :
    ∃ vs, (execOp a.eval o).run P w = (callFunc g vs.toArray).run P w ∧ RepAll P Γ ds vs := by
  obtain ⟨callee, args, argTypes⟩ := c
  have hargs := RepAll.ofOps hE args.toList
  unfold callOf at h
  split at h
  · rename_i f hf
    simp only at hf
    subst hf
    have hv := hE.ev f
    unfold callVal at h
    split at h
    · rename_i g' e
      rw [e] at hv
      cases h
      have hv' := rep_val hv
      refine ⟨args.toList.map a.eval, ?_, hargs⟩
      rw [toList_map_toArray]
      simp [execOp, ho, resolve, hv', Deferred.ofValue, invoke]
    · rename_i g' first cap e
      rw [e] at hv
      cases h
      generalize hv' : a.eval f = vf at hv
      cases hv with
      | clo _ _ _ v1 v2 h1 h2 r1 r2 =>
        refine ⟨v1 ++ args.toList.map a.eval ++ v2, ?_, RepAll.append (RepAll.append ⟨h1, r1⟩ hargs) ⟨h2, r2⟩⟩
        have he : (v1 ++ args.toList.map a.eval ++ v2).toArray = v1.toArray ++ args.map a.eval ++ v2.toArray := by apply Array.ext'; simp
        simp only [execOp, ho, resolve, hv', Deferred.ofValue, invoke, Sem.run_bind, Sem.run_pure, Result.andThen_ok, he]
    · cases h
  · rename_i r name hf
    simp only at hf
    subst hf
    split at h
    case h_2 => cases h
    rename_i t x hif
    split at h
    case h_2 => cases h
    rename_i g' y hm
    cases h
    obtain ⟨v, hv, hx⟩ := ifcOf_rep (hE.ev r) hif
    obtain ⟨u, hu⟩ := method_run (w := w) hx hm
    refine ⟨u :: args.toList.map a.eval, ?_, ?_⟩
    · have he : (u :: args.toList.map a.eval).toArray = #[u] ++ args.map a.eval := by apply Array.ext'; simp
      have hex : (#[Value.iface t v] ++ args.map a.eval).extract 1 (#[Value.iface t v] ++ args.map a.eval).size = args.map a.eval := by
        apply Array.ext'
        simp only [Array.toList_extract, Array.toList_append, Array.toList_map, List.size_toArray, Array.size_append, Array.size_map]
        simp [List.extract, List.take_of_length_le]
      have hd : Made.depth = (Made.depth - 1) + 1 := rfl
      rw [he]
      have h0 : (#[Value.iface t v] ++ args.map a.eval)[0]? = some (.iface t v) := by
        rw [Array.getElem?_append_left (by exact Nat.one_pos)]; rfl
      have hinv : (invoke (.fn (.method name) #[]) (#[Value.iface t v] ++ args.map a.eval)).run P w = (callFunc g (#[u] ++ args.map a.eval)).run P w := by
        unfold invoke
        simp only [h0, hex]
        unfold callMethod
        simp only [Sem.run_bind]
        simp only [program, Sem.run, Result.andThen_ok]
        rw [hd, ← Nat.add_assoc, (hu _).1]
        rfl
      rw [← hinv]
      simp only [execOp, ho, resolve, hv, Sem.run_bind, Sem.run_pure, Result.andThen_ok]
    · refine ⟨by simp, fun i d v' hd hv' => ?_⟩
      cases i with
      | zero => simp at hd hv'; subst hd; subst hv'; exact (hu 0).2
      | succ i => exact hargs.2 i d v' (by simpa using hd) (by simpa using hv')
  · cases h

theorem eBin_nil {op : BinOp} {t : TypeId} {x y d : D} {vy : Value} (hy : Rep P Γ y vy) (h : eBin P op t x y = some d) (hn : vy = .nilIface) : y = .val .nilIface := by
  subst hn
  cases hy with
  | val v => rfl
  | undef v =>
    exfalso
    unfold eBin at h
    split at h
    · contradiction
    · contradiction
    · contradiction
    · contradiction
    · contradiction
    · contradiction
    · obtain ⟨b, hb, _⟩ := eEq_some h
      unfold isNilOf at hb
      split at hb <;> contradiction

set_option maxHeartbeats 4000000 in
theorem builtin_gives (h : Rel P base w0 Γ st.H w) {o : Oper} {b : Builtin} {args : Array Operand} {ts : Array TypeId} {d : D} {H' : Heap} (ho : o.op = .call ⟨.builtin b, args, ts⟩) (hE : EnvRep P Γ st.env a.tmps)
    (hK : eBuiltin P b ts.toList (args.toList.map st.ev) st.H = some (d, H')) : ∃ v w' Γ', (execOp a.eval o).run P w = .ok (.value v) w' ∧ Γ.le Γ' ∧ Rel P base w0 Γ' H' w' ∧ Rep P Γ' d v := by
  have give : ∀ {s : Sem Value}, ((execOp a.eval o).run P w = (s.run P w).andThen fun v w' => .ok (.value v) w') → Gives P base w0 Γ w s d H' → ∃ v w' Γ', (execOp a.eval o).run P w = .ok (.value v) w' ∧ Γ.le Γ' ∧ Rel P base w0 Γ' H' w' ∧ Rep P Γ' d v := by
    intro s he ⟨v, w', Γ', h1, h2, h3, h4⟩
    exact ⟨v, w', Γ', by rw [he, h1]; rfl, h2, h3, h4⟩
  have hargs := RepAll.ofOps hE args.toList
  unfold eBuiltin at hK
  split at hK
  · rename_i x t e1 e2
    unfold atH at hK
    split at hK
    case h_2 => cases hK
    rename_i d' hd
    cases hK
    have hb : ts = #[t] := by apply Array.ext'; simpa using e2
    obtain ⟨y, hy⟩ : ∃ y, args.toList = [y] ∧ x = st.ev y := by
      match hq : args.toList, e1 with
      | [y], e1 => simp at e1; exact ⟨y, rfl, e1.symm⟩
    have ha : args = #[y] := by apply Array.ext'; simpa using hy.1
    subst ha; subst hb
    rw [hy.2] at hd
    exact give (s := Builtin.len_ #[t] o.type #[a.eval y]) (by simp [execOp, ho, resolve, invoke, builtin]) ((len_still h (hE.ev y) hd).gives h)
  · rename_i s x t u e1 e2
    have hb : ts = #[t, u] := by apply Array.ext'; simpa using e2
    obtain ⟨y, z, hy, rfl, rfl⟩ : ∃ y z, args.toList = [y, z] ∧ s = st.ev y ∧ x = st.ev z := by
      match hq : args.toList, e1 with
      | [y, z], e1 => simp at e1; exact ⟨y, z, rfl, e1.1.symm, e1.2.symm⟩
    have ha : args = #[y, z] := by apply Array.ext'; simpa using hy
    subst ha; subst hb
    exact give (s := Builtin.append_ #[t, u] o.type #[a.eval y, a.eval z]) (by simp [execOp, ho, resolve, invoke, builtin]) (append_gives h (hE.ev y) (hE.ev z) hK)
  · rename_i m k t u e1 e2
    unfold atU at hK
    split at hK
    case h_2 => cases hK
    rename_i H1 hd
    cases hK
    have hb : ts = #[t, u] := by apply Array.ext'; simpa using e2
    obtain ⟨y, z, hy, rfl, rfl⟩ : ∃ y z, args.toList = [y, z] ∧ m = st.ev y ∧ k = st.ev z := by
      match hq : args.toList, e1 with
      | [y, z], e1 => simp at e1; exact ⟨y, z, rfl, e1.1.symm, e1.2.symm⟩
    have ha : args = #[y, z] := by apply Array.ext'; simpa using hy
    subst ha; subst hb
    obtain ⟨w', h1, h2⟩ := delete_gives (u := u) (ty := o.type) h (hE.ev y) (hE.ev z) hd
    exact give (s := Builtin.delete_ #[t, u] o.type #[a.eval y, a.eval z]) (by simp [execOp, ho, resolve, invoke, builtin]) ⟨_, w', Γ, h1, .refl Γ, h2, .val _⟩
  · rename_i x t e1 e2
    unfold atU at hK
    split at hK
    case h_2 => cases hK
    rename_i H1 hd
    cases hK
    have hb : ts = #[t] := by apply Array.ext'; simpa using e2
    obtain ⟨y, hy⟩ : ∃ y, args.toList = [y] ∧ x = st.ev y := by
      match hq : args.toList, e1 with
      | [y], e1 => simp at e1; exact ⟨y, rfl, e1.symm⟩
    have ha : args = #[y] := by apply Array.ext'; simpa using hy.1
    subst ha; subst hb
    rw [hy.2] at hd
    obtain ⟨w', h1, h2⟩ := clear_gives (ty := o.type) h (hE.ev y) hd
    exact give (s := Builtin.clear_ #[t] o.type #[a.eval y]) (by simp [execOp, ho, resolve, invoke, builtin]) ⟨_, w', Γ, h1, .refl Γ, h2, .val _⟩
  · unfold atH at hK
    split at hK
    case h_2 => cases hK
    rename_i d' hd
    cases hK
    obtain ⟨x, rest, he, hs⟩ := min_fold (w := w) false _ _ _ hargs hd
    have ha : args.map a.eval = (x :: rest).toArray := by apply Array.ext'; simpa using he
    refine give (s := Builtin.min_ ts o.type (args.map a.eval)) (by simp only [execOp, ho, resolve, invoke, builtin, Sem.run_bind, Sem.run_pure, Result.andThen_ok]) (Still.gives h ?_)
    rw [ha]
    simpa [Builtin.min_] using hs
  · unfold atH at hK
    split at hK
    case h_2 => cases hK
    rename_i d' hd
    cases hK
    obtain ⟨x, rest, he, hs⟩ := min_fold (w := w) true _ _ _ hargs hd
    have ha : args.map a.eval = (x :: rest).toArray := by apply Array.ext'; simpa using he
    refine give (s := Builtin.max_ ts o.type (args.map a.eval)) (by simp only [execOp, ho, resolve, invoke, builtin, Sem.run_bind, Sem.run_pure, Result.andThen_ok]) (Still.gives h ?_)
    rw [ha]
    simpa [Builtin.max_] using hs
  · rename_i x e1
    unfold atH at hK
    split at hK
    case h_2 => cases hK
    rename_i d' hd
    cases hK
    obtain ⟨y, hy⟩ : ∃ y, args.toList = [y] ∧ x = st.ev y := by
      match hq : args.toList, e1 with
      | [y], e1 => simp at e1; exact ⟨y, rfl, e1.symm⟩
    have ha : args = #[y] := by apply Array.ext'; simpa using hy.1
    subst ha
    rw [hy.2] at hd
    exact give (s := Builtin.unsafeSliceData_ ts o.type #[a.eval y]) (by simp [execOp, ho, resolve, invoke, builtin]) ((sliceData_still h (hE.ev y) hd).gives h)
  · rename_i p n pt it e1 e2
    have hb : ts = #[pt, it] := by apply Array.ext'; simpa using e2
    obtain ⟨y, z, hy, rfl, rfl⟩ : ∃ y z, args.toList = [y, z] ∧ p = st.ev y ∧ n = st.ev z := by
      match hq : args.toList, e1 with
      | [y, z], e1 => simp at e1; exact ⟨y, z, rfl, e1.1.symm, e1.2.symm⟩
    have ha : args = #[y, z] := by apply Array.ext'; simpa using hy
    subst ha; subst hb
    exact give (s := Builtin.unsafeString_ #[pt, it] o.type #[a.eval y, a.eval z]) (by simp [execOp, ho, resolve, invoke, builtin]) (unsafeString_gives h (hE.ev y) (hE.ev z) hK)
  · cases hK

set_option maxHeartbeats 4000000 in
/-- One operation. -/
theorem popS_sound {o : Oper} {K : PSt → Prop} {next : Act → World → Prop} {Q : Exit → Act → World → Prop} (hK : popS P o st K) (hR : Rel P base w0 Γ st.H w) (hE : StRep P Γ st a)
    (hn : ∀ st' Γ' w' a', Γ.le Γ' → Rel P base w0 Γ' st'.H w' → StRep P Γ' st' a' → a'.tmps.size = a.tmps.size → K st' → next a' w') : o.wp P a w next Q := by
  have fin : ∀ {d : D} {H' : Heap} {Γ' : Gh} {w' : World} {v : Value}, Γ.le Γ' → Rel P base w0 Γ' H' w' → Rep P Γ' d v → K (st.next o.dst d H') → next (a.put o.dst v) w' := fun {d H' Γ' w' v} h1 h2 h3 h4 =>
    hn (st.next o.dst d H') Γ' w' (a.put o.dst v) h1 h2 ((hE.mono h1).next h3 H') (actPut_size _ _ _) h4
  unfold popS at hK
  split at hK
  · rename_i c hc
    have ho : o.op = .call c := by
      unfold isCall at hc
      split at hc
      · rename_i c' e
        split at hc
        · cases hc
        · cases hc; exact e
      · cases hc
    split at hK
    case h_2 => exact hK.elim
    rename_i g ds hco
    obtain ⟨vs, he, hra⟩ := call_run (w := w) ho hE.env hco
    have hl := hK base w0 Γ w vs hR hra
    unfold Oper.wp
    rw [he]
    unfold Lands at hl
    split at hl
    · rename_i v w' hv
      rw [hv]
      obtain ⟨Γ', H', d, x2, x3, x4, x5⟩ := hl
      exact fin x2 x3 x4 x5
    · rename_i f args w' hv
      rw [hv]
      simp only [Oper.upon]
      refine hl.mono ?_
      rintro e w'' ⟨v, rfl, Γ', H', d, x2, x3, x4, x5⟩
      exact fin x2 x3 x4 x5
    · exact hl.elim
  · rename_i hnc
    split at hK
    case h_2 => exact hK.elim
    rename_i st' hst
    have give2 : ∀ {s : Sem Value} {d : D} {H' : Heap}, ((execOp a.eval o).run P w = (s.run P w).andThen fun v w' => .ok (.value v) w') → Gives P base w0 Γ w s d H' → K (st.next o.dst d H') → o.wp P a w next Q := by
      intro s d H' he ⟨v, w', Γ', h1, h2, h3, h4⟩ hk
      unfold Oper.wp
      rw [he, h1]
      exact fin h2 h3 h4 hk
    have give : ∀ {s : Sem Value} {d : D} {H' : Heap}, (execOp a.eval o = do pure (.value (← s))) → Gives P base w0 Γ w s d H' → K (st.next o.dst d H') → o.wp P a w next Q := by
      intro s d H' he hg hk
      refine give2 ?_ hg hk
      rw [he]
      simp only [Sem.run_bind, Sem.run_pure]
    have still : ∀ {s : Sem Value} {d : D}, (execOp a.eval o = do pure (.value (← s))) → Still P Γ w s d → K (st.next o.dst d st.H) → o.wp P a w next Q := fun he hs hk => give he (hs.gives hR) hk
    have unit : ∀ {s : Sem Unit} {w' : World} {H' : Heap}, (execOp a.eval o = do s; pure .skip) → s.run P w = .ok () w' → Rel P base w0 Γ H' w' → K (st.next o.dst (.val undef) H') → o.wp P a w next Q := by
      intro s w' H' he hs hR' hk
      unfold Oper.wp
      rw [he]
      simp only [Sem.run_bind, hs, Result.andThen_ok, Sem.run_pure]
      exact fin (.refl Γ) hR' (.val _) hk
    obtain ⟨dst, op, type, pos, after, guard⟩ := o
    simp only at *
    unfold eStep at hst
    split at hst
    · -- put off
      rename_i c hop
      simp only at hop
      subst hop
      split at hst
      case h_2 => cases hst
      rename_i f hf
      split at hst
      case h_2 => cases hst
      rename_i p hp
      cases hst
      obtain ⟨callee, args, argTypes⟩ := c
      simp only at hf
      subst hf
      have hargs := RepAll.ofOps hE.env args.toList
      have hv := hE.env.ev f
      have go : ∀ (d : Deferred) (cap : Array Value), (execOp a.eval ⟨dst, .defer ⟨.value f, args, argTypes⟩, type, pos, after, guard⟩).run P w = .ok (.defer d) w → d.target = .fn (.func p.1) cap → RepAll P Γ p.2 (d.args.toList ++ cap.toList) →
          (Oper.mk dst (.defer ⟨.value f, args, argTypes⟩) type pos after guard).wp P a w next Q := by
        intro d cap he ht hra
        unfold Oper.wp
        rw [he]
        simp only [Oper.upon]
        refine hn _ Γ w _ (.refl Γ) ?_ ?_ (by cases dst <;> simp [Act.put]) hK
        · cases dst <;> exact hR
        · refine ⟨?_, ?_⟩
          · have := (hE.put (dst := dst) (d := .val undef) (v := undef) (.val _)).env
            cases dst <;> exact this
          · have hdd : ({ a with defers := d :: a.defers }.put dst undef).defers = d :: a.defers := by cases dst <;> rfl
            rw [hdd]
            refine ⟨by simp [hE.df.1], fun i g xs d' hi hd => ?_⟩
            cases i with
            | zero => simp at hi hd; subst hd; subst hi; exact ⟨cap, ht, hra⟩
            | succ i => exact hE.df.2 i g xs d' (by simpa using hi) (by simpa using hd)
      unfold callVal at hp
      split at hp
      · rename_i g e
        rw [e] at hv
        cases hp
        have hv' := rep_val hv
        refine go { target := .fn (.func g) #[], args := args.map a.eval } #[] ?_ rfl ?_
        · simp [execOp, resolve, hv', Deferred.ofValue]
        · simpa using hargs
      · rename_i g first cap e
        rw [e] at hv
        cases hp
        generalize hv' : a.eval f = vf at hv
        cases hv with
        | clo _ _ _ v1 v2 h1 h2 r1 r2 =>
          refine go { target := .fn (.func g) v2.toArray, args := v1.toArray ++ args.map a.eval } v2.toArray ?_ rfl ?_
          · simp [execOp, resolve, hv', Deferred.ofValue]
          · have := RepAll.append (RepAll.append ⟨h1, r1⟩ hargs) ⟨h2, r2⟩
            simpa using this
      · cases hp
    · rename_i hnd
      split at hst
      case h_2 => cases hst
      rename_i d H' hop
      cases hst
      unfold eOp at hop
      have unH : ∀ {x : Option D} {d : D} {H' : Heap}, atH st.H x = some (d, H') → x = some d ∧ H' = st.H := by
        intro x d H' h
        cases x with
        | none => cases h
        | some y => cases h; exact ⟨rfl, rfl⟩
      have unU : ∀ {x : Option Heap} {d : D} {H' : Heap}, atU x = some (d, H') → x = some H' ∧ d = .val undef := by
        intro x d H' h
        cases x with
        | none => cases h
        | some y => cases h; exact ⟨rfl, rfl⟩
      have ev := hE.env.ev
      cases op <;> simp only [reduceCtorEq] at hop
      case move x => cases hop; exact fin (.refl Γ) hR (ev x) hK
      case assign x => cases hop; exact fin (.refl Γ) hR (ev x) hK
      case pick c x y =>
        obtain ⟨hop2, rfl⟩ := unH hop
        have hc := ev c
        unfold ePick at hop2
        split at hop2
        case h_2 => cases hop2
        rename_i t he
        cases hop2
        rw [he] at hc
        have hc' := rep_val hc
        unfold Oper.wp
        cases t
        · simp only [execOp, hc', asBool, Sem.run_bind, Sem.run_pure, Result.andThen_ok]
          exact fin (.refl Γ) hR (ev y) hK
        · simp only [execOp, hc', asBool, Sem.run_bind, Sem.run_pure, Result.andThen_ok]
          exact fin (.refl Γ) hR (ev x) hK
      case binOp op t x y yt =>
        split at hop
        case isTrue => cases hop
        rename_i hni
        obtain ⟨hop2, rfl⟩ := unH hop
        refine still (s := do eqGuard op t x y (a.eval x) (a.eval y); binOp op t (a.eval x) (a.eval y)) rfl (bin_still (ev x) (ev y) (fun hn => ?_) hop2) hK
        have := eBin_nil (ev y) hop2 hn
        rw [this] at hni
        cases y with
        | const c => exact ⟨c, rfl⟩
        | _ => exact absurd ⟨rfl, rfl⟩ hni
      case unOp op t x => obtain ⟨hop2, rfl⟩ := unH hop; exact still (s := Op.unary op (a.eval x)) rfl (un_still (ev x) hop2) hK
      case convert s d x => exact give (s := convert s d (a.eval x)) rfl (convert_gives hR (ev x) hop) hK
      case index t x i => obtain ⟨hop2, rfl⟩ := unH hop; exact still (s := Instr.index t (a.eval x) (a.eval i)) rfl (index_still (ev x) (ev i) hop2) hK
      case indexAddr t x i => obtain ⟨hop2, rfl⟩ := unH hop; exact still (s := Instr.indexAt t (a.eval x) (a.eval i)) rfl (indexAddr_still (ev x) (ev i) hop2) hK
      case slice t x lo hi mx =>
        cases mx with
        | none => obtain ⟨hop2, rfl⟩ := unH hop; exact still (s := Instr.sliceAt t (a.eval x) (lo.map a.eval) (hi.map a.eval) none) rfl (slice_still (ev x) (.ev hE.env lo) (.ev hE.env hi) hop2) hK
        | some m => obtain ⟨hop2, rfl⟩ := unH hop; exact still (s := Instr.sliceAt t (a.eval x) (lo.map a.eval) (hi.map a.eval) (some (a.eval m))) rfl (slice3_still (ev x) (.ev hE.env lo) (.ev hE.env hi) (ev m) hop2) hK
      case field t x f => obtain ⟨hop2, rfl⟩ := unH hop; exact still (s := Instr.field t (a.eval x) f) rfl (field_still (ev x) hop2) hK
      case fieldAddr t x f => obtain ⟨hop2, rfl⟩ := unH hop; exact still (s := Instr.fieldAt t (a.eval x) f) rfl (fieldAddr_still (ev x) hop2) hK
      case load t x => obtain ⟨hop2, rfl⟩ := unH hop; exact still (s := Instr.loadAt t (a.eval x)) rfl (load_still hR (ev x) hop2) hK
      case store t p x =>
        obtain ⟨hop2, rfl⟩ := unU hop
        obtain ⟨w', h1, h2⟩ := store_gives hR (ev p) (ev x) hop2
        exact unit (s := Instr.storeAt t (a.eval p) (a.eval x)) rfl h1 h2 hK
      case extract x i => obtain ⟨hop2, rfl⟩ := unH hop; exact still (s := Instr.extract (a.eval x) i) rfl (extract_still (ev x) hop2) hK
      case makeInterface t x => obtain ⟨hop2, rfl⟩ := unH hop; exact still (s := Instr.makeInterface t (a.eval x)) rfl (makeInterface_still (ev x) hop2) hK
      case makeFunc fn first cap =>
        cases hop
        refine fin (.refl Γ) hR ?_ hK
        have h1 := RepAll.ofOps hE.env first.toList
        have h2 := RepAll.ofOps hE.env cap.toList
        have := Rep.clo (P := P) (Γ := Γ) fn _ _ _ _ h1.1 h2.1 h1.2 h2.2
        rwa [toList_map_toArray, toList_map_toArray] at this
      case nilCheck x =>
        obtain ⟨hop2, rfl⟩ := unH hop
        have hx := ev x
        have hd : d = st.ev x := by unfold eNilCheck at hop2; split at hop2 <;> first | (cases hop2; done) | exact (Option.some.inj hop2).symm
        subst hd
        have hrun : (execOp a.eval ⟨dst, .nilCheck x, type, pos, after, guard⟩).run P w = .ok (.value (a.eval x)) w := by
          unfold eNilCheck at hop2
          split at hop2 <;> rename_i e <;> first | (cases hop2; done) | skip
          all_goals
            rw [e] at hx
            generalize hv : a.eval x = vx at hx
            cases hx
            simp [execOp, hv]
        unfold Oper.wp
        rw [hrun]
        exact fin (.refl Γ) hR hx hK
      case alloc t => exact give (s := Instr.alloc t true (.tuple #[])) rfl (alloc_gives hR hop) hK
      case box t x => exact give (s := Instr.box t (a.eval x)) rfl (box_gives hR (ev x) hop) hK
      case build t ps =>
        obtain ⟨hop2, rfl⟩ := unH hop
        have := build_still (w := w) (t := t) (vs := ps.toList.map fun p => (p.1, a.eval p.2)) (by simp) (RepAll.ofParts (fun x => ev x) ps.toList) hop2
        rw [toList_map_toArray] at this
        exact still (s := Instr.build t (ps.map fun p => (p.1, a.eval p.2))) rfl this hK
      case buildSlice t n ps =>
        have := buildSlice_gives hR (t := t) (n := n) (vs := ps.toList.map fun p => (p.1, a.eval p.2)) (by simp) (RepAll.ofParts (fun x => ev x) ps.toList) hop
        rw [toList_map_toArray] at this
        exact give (s := Instr.buildSlice t n (ps.map fun p => (p.1, a.eval p.2))) (by simp only [execOp]) this hK
      case makeSlice t n c => exact give (s := Instr.makeSlice t (a.eval n) (a.eval c)) rfl (makeSlice_gives hR (ev n) (ev c) hop) hK
      case makeMap t r =>
        cases r with
        | some r => cases hop
        | none => cases hop; exact give (s := Instr.makeMap t none) rfl (makeMap_gives hR) hK
      case lookup t m k ok => obtain ⟨hop2, rfl⟩ := unH hop; exact still (s := Instr.lookup t (a.eval m) (a.eval k) ok) rfl (lookup_still hR (ev m) (ev k) hop2) hK
      case mapUpdate t m k x =>
        obtain ⟨hop2, rfl⟩ := unU hop
        obtain ⟨w', h1, h2⟩ := mapUpdate_gives hR (ev m) (ev k) (ev x) hop2
        exact unit (s := Instr.mapUpdate t (a.eval m) (a.eval k) (a.eval x)) rfl h1 h2 hK
      case typeAssert x xt t ok => obtain ⟨hop2, rfl⟩ := unH hop; exact still (s := Instr.typeAssert (a.eval x) xt t ok) rfl (typeAssert_still (ev x) hop2) hK
      case call c =>
        obtain ⟨callee, args, argTypes⟩ := c
        cases callee with
        | builtin b =>
          simp only at hop
          obtain ⟨v, w', Γ', h1, h2, h3, h4⟩ := builtin_gives (o := ⟨dst, .call ⟨.builtin b, args, argTypes⟩, type, pos, after, guard⟩) hR rfl hE.env hop
          unfold Oper.wp
          rw [h1]
          exact fin h2 h3 h4 hK
        | value f => cases hop
        | invoke r n => cases hop
end
end Go.Pv
