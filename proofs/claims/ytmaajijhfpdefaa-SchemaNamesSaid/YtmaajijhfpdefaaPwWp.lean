/- One operation, and calls by their contracts. -/
import Derived.Test.YtmaajijhfpdefaaPwSound3
import Derived.Tactics
import Derived.Orders
namespace Go.Pw
open Go.RowKit

/-- A call of function f with ds, in the heap H, returns; R of what it hands back. -/
def PCalls (P : Program) (f : FuncId) (ds : List D) (H : Heap) (R : D → Heap → Prop) : Prop :=
  (∀ args w, (callFunc f args).run P w = .ok (.enter f args) w) ∧
  ∀ base w0 Γ w args, Rel P base w0 Γ H w → RepAll P Γ ds args →
    Calls P f args.toArray w fun e w' => ∃ v Γ' H' d, e = .returned v ∧ Γ.le Γ' ∧ Rel P base w0 Γ' H' w' ∧ Rep P Γ' d v ∧ R d H'
theorem PCalls.mono {P : Program} {f : FuncId} {ds : List D} {H : Heap} {R R' : D → Heap → Prop} (h : PCalls P f ds H R) (hr : ∀ d H', R d H' → R' d H') : PCalls P f ds H R' :=
  ⟨h.1, fun base w0 Γ w args hR hA => (h.2 base w0 Γ w args hR hA).mono fun e w' ⟨v, Γ', H', d, x1, x2, x3, x4, x5⟩ => ⟨v, Γ', H', d, x1, x2, x3, x4, hr _ _ x5⟩⟩

def pCall (P : Program) (c : Call) (st : PSt) (K : D → Heap → Prop) : Prop :=
  match c.callee with
  | .value f => match st.ev f with
    | .val (.func (.func g) ⟨[]⟩ ⟨[]⟩) => PCalls P g (c.args.toList.map st.ev) st.H K
    | .clo (.func g) first cap => PCalls P g (first ++ c.args.toList.map st.ev ++ cap) st.H K
    | _ => False
  | .builtin .len => match c.args.toList, c.argTypes.toList with
    | [x], [t] => pLen P t (st.ev x) fun d => K d st.H
    | _, _ => False
  | .builtin .append => match c.args.toList, c.argTypes.toList with
    | [s, x], [t, u] => t = u ∧ pAppend P t (st.ev s) (st.ev x) st.H K
    | _, _ => False
  | .builtin .min => pMinMax false (c.args.toList.map st.ev) fun d => K d st.H
  | .builtin .max => pMinMax true (c.args.toList.map st.ev) fun d => K d st.H
  | _ => False

def pop (P : Program) (o : Oper) (st : PSt) (K : D → Heap → Prop) : Prop :=
  match o.op with
  | .move x | .assign x => K (st.ev x) st.H
  | .pick c a b => pPick (st.ev c) (st.ev a) (st.ev b) fun d => K d st.H
  | .binOp op t x y _ => pBin P op t (st.ev x) (st.ev y) fun d => K d st.H
  | .unOp op _ x => pUn op (st.ev x) fun d => K d st.H
  | .convert s d x => pConvert P s d (st.ev x) st.H K
  | .index t x i => pIndex P t (st.ev x) (st.ev i) fun d => K d st.H
  | .indexAddr t x i => pIndexAddr P t (st.ev x) (st.ev i) fun d => K d st.H
  | .slice t x lo hi none => pSlice P t (st.ev x) (lo.map st.ev) (hi.map st.ev) fun d => K d st.H
  | .field t x f => pField P t (st.ev x) f fun d => K d st.H
  | .fieldAddr t x f => pFieldAddr P t (st.ev x) f fun d => K d st.H
  | .load t x => pLoad P t (st.ev x) st.H fun d => K d st.H
  | .store t p x => pStore P t (st.ev p) (st.ev x) st.H fun H' => K (.val undef) H'
  | .extract x i => pExtract (st.ev x) i fun d => K d st.H
  | .makeInterface t x => pMakeInterface P t (st.ev x) fun d => K d st.H
  | .makeFunc fn first cap => K (.clo fn (first.toList.map st.ev) (cap.toList.map st.ev)) st.H
  | .nilCheck x => pNilCheck (st.ev x) fun d => K d st.H
  | .alloc t => pAlloc P t st.H K
  | .box _ x => pBox (st.ev x) st.H K
  | .build t ps => pBuild P t (ps.toList.map fun p => (p.1, st.ev p.2)) fun d => K d st.H
  | .buildSlice t n ps => pBuildSlice P t n (ps.toList.map fun p => (p.1, st.ev p.2)) st.H K
  | .makeSlice t n c => pMakeSlice P t (st.ev n) (st.ev c) st.H K
  | .call c => pCall P c st K
  | _ => False

section
variable {P : Program} {base : Nat} {w0 : World} {Γ : Gh} {w : World} {st : PSt} {a : Act}

theorem RepAll.ofOps (h : EnvRep P Γ st.env a.tmps) (xs : List Operand) : RepAll P Γ (xs.map st.ev) (xs.map a.eval) := by
  refine ⟨by simp, fun i d v hd hv => ?_⟩
  simp only [List.getElem?_map] at hd hv
  cases hx : xs[i]? with
  | none => simp [hx] at hd
  | some x =>
    simp [hx] at hd hv
    subst hd; subst hv
    exact h.ev x
theorem RepAll.app {x y : List D} {u v : List Value} (h : RepAll P Γ x u) (k : RepAll P Γ y v) : RepAll P Γ (x ++ y) (u ++ v) := h.append k

theorem len_still {t : TypeId} {ty : TypeId} {x : D} {v : Value} {K : D → Prop} (hx : Rep P Γ x v) (hK : pLen P t x K) : Still P Γ w (Builtin.len_ #[t] ty #[v]) K := by
  unfold pLen at hK
  split at hK
  · rename_i s hu
    obtain rfl := rep_val hx
    exact ⟨_, _, by simp [Builtin.len_, run_underlying hu, goInt], .val _, hK⟩
  · rename_i e g e' l hu
    refine ⟨.int .i64 l.length, _, ?_, .val _, hK⟩
    cases hx <;> simp [Builtin.len_, run_underlying hu, goInt]
  · rename_i e i e' off n hu
    refine ⟨.int .i64 n, _, ?_, .val _, hK⟩
    cases hx
    simp [Builtin.len_, run_underlying hu, goInt]
  · rename_i hu
    exact ⟨_, _, by simp [Builtin.len_, run_underlying hu, goInt], .val _, hK⟩
  · exact hK.elim

theorem min_fold {P : Program} {Γ : Gh} {w : World} (mx : Bool) : ∀ (l : List D) (vs : List Value) {K : D → Prop} (_ : RepAll P Γ l vs) (_ : pMinMax mx l K),
    ∃ x rest, vs = x :: rest ∧ Still P Γ w (rest.foldlM (if mx then Builtin.max2 else Builtin.min2) x) K
  | [], vs, _, _, hK => by simp [pMinMax] at hK
  | [x], vs, _, hr, hK => by
    match vs, hr with
    | [v], hr =>
      simp only [pMinMax] at hK
      exact ⟨v, [], rfl, v, x, rfl, hr.2 0 x v rfl rfl, hK⟩
  | x :: y :: rest, vs0, _, hr, hK => by
    match vs0, hr with
    | v :: u :: vs, hr =>
      unfold pMinMax at hK
      split at hK
      · rename_i h; simp at h
      · rename_i h; simp at h
      · rename_i k a k' b rest' he
        simp only [List.cons.injEq] at he
        obtain ⟨rfl, rfl, rfl⟩ := he
        obtain ⟨rfl, hK⟩ := hK
        obtain rfl := rep_int (hr.2 0 _ v rfl rfl)
        obtain rfl := rep_int (hr.2 1 _ u rfl rfl)
        have hr' : RepAll P Γ (.val (.int k (if mx then (if a < b then b else a) else (if b < a then b else a))) :: rest) (.int k (if mx then (if a < b then b else a) else (if b < a then b else a)) :: vs) := by
          refine ⟨by simpa using hr.1, fun i d v hd hv => ?_⟩
          cases i with
          | zero => simp at hd hv; subst hd; subst hv; exact .val _
          | succ i => exact hr.2 (i + 2) d v (by simpa using hd) (by simpa using hv)
        obtain ⟨x, rest', he, hs⟩ := min_fold mx _ _ hr' hK
        simp only [List.cons.injEq] at he
        obtain ⟨rfl, rfl⟩ := he
        refine ⟨_, _, rfl, ?_⟩
        obtain ⟨v', d', h1, h2, h3⟩ := hs
        refine ⟨v', d', ?_, h2, h3⟩
        rw [List.foldlM_cons, Sem.run_bind, ← h1]
        cases mx <;> simp [Builtin.max2, Builtin.min2]
      · exact hK.elim
termination_by l => l.length

theorem eqGuard_plain (op : BinOp) (t : TypeId) (x y : Operand) (u v : Value) (h : (∃ k n, u = .int k n) ∨ (∃ s, u = .string s) ∨ ∃ b, u = .bool b) : (eqGuard op t x y u v).run P w = .ok () w := by
  rcases h with ⟨k, n, rfl⟩ | ⟨s, rfl⟩ | ⟨b, rfl⟩ <;> cases op <;> simp [eqGuard]

theorem toList_map_toArray {α β : Type} (f : α → β) (x : Array α) : (x.toList.map f).toArray = x.map f := by apply Array.ext'; simp

set_option maxHeartbeats 4000000 in
/-- One operation. -/
theorem pop_sound {o : Oper} {K : D → Heap → Prop} {next : Act → World → Prop} {Q : Exit → Act → World → Prop} (hK : pop P o st K) (hR : Rel P base w0 Γ st.H w) (hE : EnvRep P Γ st.env a.tmps)
    (hn : ∀ d H' Γ' w' v, Γ.le Γ' → Rel P base w0 Γ' H' w' → Rep P Γ' d v → K d H' → next (a.put o.dst v) w') : o.wp P a w next Q := by
  have give2 : ∀ {s : Sem Value}, ((execOp a.eval o).run P w = (s.run P w).andThen fun v w' => .ok (.value v) w') → Gives P base w0 Γ w s K → o.wp P a w next Q := by
    intro s he ⟨v, w', Γ', H', d, h1, h2, h3, h4, h5⟩
    unfold Oper.wp
    rw [he, h1]
    exact hn d H' Γ' w' v h2 h3 h4 h5
  have give : ∀ {s : Sem Value}, (execOp a.eval o = do pure (.value (← s))) → Gives P base w0 Γ w s K → o.wp P a w next Q := by
    intro s he hg
    refine give2 ?_ hg
    rw [he]
    simp only [Sem.run_bind, Sem.run_pure]
  have still : ∀ {s : Sem Value}, (execOp a.eval o = do pure (.value (← s))) → Still P Γ w s (fun d => K d st.H) → o.wp P a w next Q := fun he hs => give he (hs.gives hR)
  obtain ⟨dst, op, type, pos, after, guard⟩ := o
  unfold pop at hK
  cases op <;> simp only at hK
  case move x => exact hn _ _ Γ w _ (.refl Γ) hR (hE.ev x) hK
  case assign x => exact hn _ _ Γ w _ (.refl Γ) hR (hE.ev x) hK
  case pick c x y =>
    have hc := hE.ev c
    unfold pPick at hK
    split at hK
    · rename_i t he
      rw [he] at hc
      have hc' := rep_val hc
      unfold Oper.wp
      cases t
      · simp only [execOp, hc', asBool, Sem.run_bind, Sem.run_pure, Result.andThen_ok]
        exact hn _ _ Γ w _ (.refl Γ) hR (hE.ev y) (hK.2 rfl)
      · simp only [execOp, hc', asBool, Sem.run_bind, Sem.run_pure, Result.andThen_ok]
        exact hn _ _ Γ w _ (.refl Γ) hR (hE.ev x) (hK.1 rfl)
    · exact hK.elim
  case binOp op t x y yt =>
    have hs : Still P Γ w (do eqGuard op t x y (a.eval x) (a.eval y); binOp op t (a.eval x) (a.eval y)) (fun d => K d st.H) := by
      obtain ⟨v, d, h1, h2, h3⟩ := bin_still (w := w) (hE.ev x) (hE.ev y) hK
      refine ⟨v, d, ?_, h2, h3⟩
      have hg : (eqGuard op t x y (a.eval x) (a.eval y)).run P w = .ok () w := by
        have hx := hE.ev x
        have hy := hE.ev y
        unfold pBin at hK
        split at hK
        · rename_i e1 e2; rw [e1] at hx; exact eqGuard_plain op t x y _ _ (.inl ⟨_, _, rep_val hx⟩)
        · rename_i e1 e2; rw [e1] at hx; exact eqGuard_plain op t x y _ _ (.inr (.inl ⟨_, rep_val hx⟩))
        · rename_i e1 e2; rw [e1] at hx; exact eqGuard_plain op t x y _ _ (.inr (.inr ⟨_, rep_val hx⟩))
        · rename_i e1 e2
          rw [e1] at hx
          rw [e2] at hy
          split at hK
          · rename_i hf
            obtain ⟨vs, h1, _⟩ := RepAll.ofAgg hx
            obtain ⟨us, h2, _⟩ := RepAll.ofAgg hy
            rw [h1, h2]
            exact run_eqGuard_agg w op t x y _ _ (flatKinds_fields hf).2.2.1
          · exact hK.elim
        · rename_i e2
          obtain ⟨b, hb, -⟩ := pEq_some hK.2
          obtain ⟨u, n, c, h1, -⟩ := isNil_slice hx hb
          rw [h1]
          cases op <;> rfl
        · rename_i e2
          obtain ⟨b, hb, -⟩ := pEq_some hK.2
          obtain ⟨u, h1, -⟩ := isNil_pointer hx hb
          rw [h1]
          cases op <;> rfl
        · exact hK.elim
      simp only [Sem.run_bind, hg, Result.andThen_ok, h1]
    exact still (s := do eqGuard op t x y (a.eval x) (a.eval y); binOp op t (a.eval x) (a.eval y)) rfl hs
  case unOp op t x => exact still (s := Op.unary op (a.eval x)) rfl (un_still (hE.ev x) hK)
  case convert s d x => exact give (s := convert s d (a.eval x)) rfl (convert_gives hR (hE.ev x) hK)
  case index t x i => exact still (s := Instr.index t (a.eval x) (a.eval i)) rfl (index_still (hE.ev x) (hE.ev i) hK)
  case indexAddr t x i => exact still (s := Instr.indexAt t (a.eval x) (a.eval i)) rfl (indexAddr_still (hE.ev x) (hE.ev i) hK)
  case slice t x lo hi mx =>
    cases mx with
    | none => exact still (s := Instr.sliceAt t (a.eval x) (lo.map a.eval) (hi.map a.eval) none) rfl (slice_still (hE.ev x) (.ev hE lo) (.ev hE hi) hK)
    | some m => exact hK.elim
  case field t x f => exact still (s := Instr.field t (a.eval x) f) rfl (field_still (hE.ev x) hK)
  case fieldAddr t x f => exact still (s := Instr.fieldAt t (a.eval x) f) rfl (fieldAddr_still (hE.ev x) hK)
  case load t x => exact still (s := Instr.loadAt t (a.eval x)) rfl (load_still hR (hE.ev x) hK)
  case store t p x =>
    obtain ⟨w', H', h1, h2, h3⟩ := store_gives hR (hE.ev p) (hE.ev x) hK
    unfold Oper.wp
    simp only [execOp, Sem.run_bind, h1, Result.andThen_ok, Sem.run_pure]
    exact hn _ H' Γ w' undef (.refl Γ) h2 (.val _) h3
  case extract x i => exact still (s := Instr.extract (a.eval x) i) rfl (extract_still (hE.ev x) hK)
  case makeInterface t x => exact still (s := Instr.makeInterface t (a.eval x)) rfl (makeInterface_still (hE.ev x) hK)
  case makeFunc fn first cap =>
    refine hn _ _ Γ w _ (.refl Γ) hR ?_ hK
    have h1 := RepAll.ofOps hE first.toList
    have h2 := RepAll.ofOps hE cap.toList
    have := Rep.clo (P := P) (Γ := Γ) fn _ _ _ _ h1.1 h2.1 h1.2 h2.2
    rwa [toList_map_toArray, toList_map_toArray] at this
  case nilCheck x =>
    have hx := hE.ev x
    unfold pNilCheck at hK
    unfold Oper.wp
    split at hK
    · rename_i i off e; rw [e] at hx
      generalize hv : a.eval x = vx at *
      cases hx with
      | ptr _ _ b hb =>
        simp only [execOp, hv]
        exact hn _ _ Γ w _ (.refl Γ) hR (.ptr i off b hb) hK
    · rename_i cs off e; rw [e] at hx
      generalize hv : a.eval x = vx at *
      cases hx with
      | obj _ _ ad vs hk hr =>
        simp only [execOp, hv]
        exact hn _ _ Γ w _ (.refl Γ) hR (.obj cs off ad vs hk hr) hK
    · rename_i f x1 x2 e; rw [e] at hx
      have := rep_val hx
      simp only [execOp, this]
      exact hn _ _ Γ w _ (.refl Γ) hR (.val _) hK
    · rename_i f x1 x2 e; rw [e] at hx
      generalize hv : a.eval x = vx at *
      cases hx with
      | clo _ _ _ v1 v2 h1 h2 r1 r2 =>
        simp only [execOp, hv]
        exact hn _ _ Γ w _ (.refl Γ) hR (.clo _ _ _ v1 v2 h1 h2 r1 r2) hK
    · exact hK.elim
  case alloc t => exact give (s := Instr.alloc t true (.tuple #[])) rfl (alloc_gives hR hK)
  case box t x => exact give (s := Instr.box t (a.eval x)) rfl (box_gives hR (hE.ev x) hK)
  case build t ps =>
    have := build_still (w := w) (t := t) (vs := ps.toList.map fun p => (p.1, a.eval p.2)) (by simp) (RepAll.ofParts (fun x => hE.ev x) ps.toList) hK
    rw [toList_map_toArray] at this
    exact still (s := Instr.build t (ps.map fun p => (p.1, a.eval p.2))) rfl this
  case buildSlice t n ps =>
    have := buildSlice_gives hR (t := t) (n := n) (vs := ps.toList.map fun p => (p.1, a.eval p.2)) (by simp) (RepAll.ofParts (fun x => hE.ev x) ps.toList) hK
    rw [toList_map_toArray] at this
    exact give (s := Instr.buildSlice t n (ps.map fun p => (p.1, a.eval p.2))) (by simp only [execOp]) this
  case makeSlice t n c => exact give (s := Instr.makeSlice t (a.eval n) (a.eval c)) rfl (makeSlice_gives hR (hE.ev n) (hE.ev c) hK)
  case call c =>
    obtain ⟨callee, args, argTypes⟩ := c
    unfold pCall at hK
    have enters : ∀ {g : FuncId} {ds : List D} {vs : List Value}, (execOp a.eval ⟨dst, .call ⟨callee, args, argTypes⟩, type, pos, after, guard⟩).run P w = (callFunc g vs.toArray).run P w → RepAll P Γ ds vs →
        PCalls P g ds st.H K → (Oper.mk dst (.call ⟨callee, args, argTypes⟩) type pos after guard).wp P a w next Q := by
      intro g ds vs he hr hc
      unfold Oper.wp
      rw [he, hc.1]
      simp only [Oper.upon]
      refine (hc.2 base w0 Γ w vs hR hr).mono ?_
      rintro e w' ⟨v, Γ', H', d, rfl, h2, h3, h4, h5⟩
      exact hn d H' Γ' w' v h2 h3 h4 h5
    have hargs := RepAll.ofOps hE args.toList
    cases callee <;> simp only at hK
    case value f =>
      have hf := hE.ev f
      split at hK
      · rename_i g e
        rw [e] at hf
        have hf' := rep_val hf
        refine enters (vs := args.toList.map a.eval) ?_ hargs hK
        rw [toList_map_toArray]
        simp [execOp, resolve, hf', Deferred.ofValue, invoke]
      · rename_i g first cap e
        rw [e] at hf
        generalize hv : a.eval f = vf at hf
        cases hf with
        | clo _ _ _ v1 v2 h1 h2 r1 r2 =>
          refine enters (vs := v1 ++ args.toList.map a.eval ++ v2) ?_ (RepAll.app (RepAll.app ⟨h1, r1⟩ hargs) ⟨h2, r2⟩) hK
          have he : (v1 ++ args.toList.map a.eval ++ v2).toArray = v1.toArray ++ args.map a.eval ++ v2.toArray := by apply Array.ext'; simp
          simp only [execOp, resolve, hv, Deferred.ofValue, invoke, Sem.run_bind, Sem.run_pure, Result.andThen_ok, he]
      · exact hK.elim
    case builtin b =>
      cases b <;> simp only at hK
      case len =>
        split at hK
        · rename_i x t e1 e2
          have hs := len_still (w := w) (ty := type) (hE.ev x) hK
          have ha : args = #[x] := by apply Array.ext'; simpa using e1
          have hb : argTypes = #[t] := by apply Array.ext'; simpa using e2
          subst ha; subst hb
          exact give2 (s := Builtin.len_ #[t] type #[a.eval x]) (by simp [execOp, resolve, invoke, builtin]) (hs.gives hR)
        · exact hK.elim
      case append =>
        split at hK
        · rename_i s x t u e1 e2
          obtain ⟨rfl, hK⟩ := hK
          have ha : args = #[s, x] := by apply Array.ext'; simpa using e1
          have hb : argTypes = #[t, t] := by apply Array.ext'; simpa using e2
          subst ha; subst hb
          exact give2 (s := Builtin.append_ #[t, t] type #[a.eval s, a.eval x]) (by simp [execOp, resolve, invoke, builtin]) (append_gives hR (hE.ev s) (hE.ev x) hK)
        · exact hK.elim
      case min =>
        obtain ⟨x, rest, he, hs⟩ := min_fold (w := w) false _ _ hargs hK
        have ha : args.map a.eval = (x :: rest).toArray := by apply Array.ext'; simpa using he
        refine still (s := Builtin.min_ argTypes type (args.map a.eval)) rfl ?_
        rw [ha]
        simpa [Builtin.min_] using hs
      case max =>
        obtain ⟨x, rest, he, hs⟩ := min_fold (w := w) true _ _ hargs hK
        have ha : args.map a.eval = (x :: rest).toArray := by apply Array.ext'; simpa using he
        refine still (s := Builtin.max_ argTypes type (args.map a.eval)) rfl ?_
        rw [ha]
        simpa [Builtin.max_] using hs
      all_goals exact hK.elim
  all_goals exact hK.elim
end
end Go.Pw
