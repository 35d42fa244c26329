/- The code, by its parts. -/
import Derived.Test.YtpedcchnhjffpaaGreatPvDraw
import Derived.Recover
namespace Go.Pv
open Go.RowKit
section
variable {P : Program} {n : Nat} {base : Prot} {w0 : World} {Γ : Gh} {w : World} {st : PSt} {a : Act} {Q : Exit → PSt → Prop}

/-! ### Code -/
theorem pwp_mono {c : Code} {Q Q' : Exit → PSt → Prop} (h : pwp P n c Q st) (hq : ∀ e st, Q e st → Q' e st) : pwp P n c Q' st :=
  fun base w0 Γ w a h1 h2 h3 => Code.wp_mono (fun e a w ⟨st, Γ, x1, x2, x3, x4, x6⟩ => ⟨st, Γ, x1, x2, x3, x4, hq _ _ x6⟩) (h base w0 Γ w a h1 h2 h3)
theorem pwp_region {id : Nat} {ops : List Oper} (h : pops P ops.toArray ops (fun st' => Q .normal st') st) : pwp P n (.region id ops.toArray false) Q st :=
  fun base w0 Γ w a h1 h2 h3 => wp_region_lit (pops_sound ops (.refl Γ) h1 h2 h3 h)
theorem pwp_skip (h : Q .normal st) : pwp P n .skip Q st := fun base w0 Γ w a h1 h2 h3 => wp_skip ⟨st, Γ, .refl Γ, h1, h2, h3, h⟩
theorem pwp_label {l : Nat} (h : Q .normal st) : pwp P n (.label l) Q st := fun base w0 Γ w a h1 h2 h3 => wp_label ⟨st, Γ, .refl Γ, h1, h2, h3, h⟩
theorem pwp_exit {id : Nat} (h : Q (.exit id) st) : pwp P n (.exit id) Q st := fun base w0 Γ w a h1 h2 h3 => wp_exit ⟨st, Γ, .refl Γ, h1, h2, h3, h⟩
theorem pwp_goto {id : Nat} (h : Q (.goto id) st) : pwp P n (.goto id) Q st := fun base w0 Γ w a h1 h2 h3 => wp_goto ⟨st, Γ, .refl Γ, h1, h2, h3, h⟩
theorem pwp_ret (h : Q .ret st) : pwp P n .ret Q st := fun base w0 Γ w a h1 h2 h3 => wp_ret ⟨st, Γ, .refl Γ, h1, h2, h3, h⟩
def thenP (next : PSt → Prop) (Q : Exit → PSt → Prop) : Exit → PSt → Prop
  | .normal, st => next st
  | e, st => Q e st
theorem pwp_seq {x y : Code} (h : pwp P n x (thenP (pwp P n y Q) Q) st) : pwp P n (.seq x y) Q st := by
  intro base w0 Γ w a h1 h2 h3
  refine wp_seq (Code.wp_mono ?_ (h base w0 Γ w a h1 h2 h3))
  rintro e a' w' ⟨st', Γ', x1, x2, x3, x4, x6⟩
  cases e with
  | normal => exact Code.wp_mono (fun e a w q => q.le x1) (x6 base w0 Γ' w' a' x2 x3 x4)
  | exit id => exact ⟨st', Γ', x1, x2, x3, x4, x6⟩
  | goto l => exact ⟨st', Γ', x1, x2, x3, x4, x6⟩
  | ret => exact ⟨st', Γ', x1, x2, x3, x4, x6⟩
  | panic ch => exact ⟨st', Γ', x1, x2, x3, x4, x6⟩
  | outgrown => exact ⟨st', Γ', x1, x2, x3, x4, x6⟩
theorem pwp_cond {c : Operand} {x y : Code} {t : Bool} (hc : st.ev c = .val (.bool t)) (ht : t = true → pwp P n x Q st) (hf : t = false → pwp P n y Q st) : pwp P n (.cond c x y) Q st := by
  intro base w0 Γ w a h1 h2 h3
  have hv := h2.env.ev c
  rw [hc] at hv
  have hv' := rep_val hv
  cases t
  · exact wp_cond_false hv' (hf rfl base w0 Γ w a h1 h2 h3)
  · exact wp_cond_true hv' (ht rfl base w0 Γ w a h1 h2 h3)
def inBlockP (id : Nat) (Q : Exit → PSt → Prop) : Exit → PSt → Prop
  | .exit id', st => if id' = id then Q .normal st else Q (.exit id') st
  | e, st => Q e st
theorem pwp_block {id : Nat} {c : Code} (h : pwp P n c (inBlockP id Q) st) : pwp P n (.block id c) Q st := by
  intro base w0 Γ w a h1 h2 h3
  refine wp_block (Code.wp_mono ?_ (h base w0 Γ w a h1 h2 h3))
  rintro e a' w' ⟨st', Γ', x1, x2, x3, x4, x6⟩
  cases e with
  | exit id' =>
    simp only [Exit.inBlock, inBlockP] at x6 ⊢
    split
    · rename_i e; rw [if_pos e] at x6; exact ⟨st', Γ', x1, x2, x3, x4, x6⟩
    · rename_i e; rw [if_neg e] at x6; exact ⟨st', Γ', x1, x2, x3, x4, x6⟩
  | normal => exact ⟨st', Γ', x1, x2, x3, x4, x6⟩
  | goto l => exact ⟨st', Γ', x1, x2, x3, x4, x6⟩
  | ret => exact ⟨st', Γ', x1, x2, x3, x4, x6⟩
  | panic ch => exact ⟨st', Γ', x1, x2, x3, x4, x6⟩
  | outgrown => exact ⟨st', Γ', x1, x2, x3, x4, x6⟩
/-- A loop: what holds at each round's head, with a number that goes down. -/
theorem pwp_loop {c : Code} (I : Nat → PSt → Prop) (m : Nat) (h0 : I m st) (round : ∀ m st, I m st → pwp P n c (thenP (fun st' => ∃ k, k < m ∧ I k st') Q) st) : pwp P n (.loop c) Q st := by
  intro base w0 Γ w a h1 h2 h3
  let J : Nat → Act → World → Prop := fun m a w => ∃ st' Γ', Γ.le Γ' ∧ Rel P base w0 Γ' st'.H w ∧ StRep P Γ' st' a ∧ a.tmps.size = n ∧ I m st'
  have key : ∀ (a : Act) (w : World), (∃ m, J m a w) → ∃ m, J m a w ∧ ∀ k, J k a w → m ≤ k := by
    intro a w ⟨m, hm⟩
    have : ∀ n, (∃ k, k ≤ n ∧ J k a w) → ∃ m, J m a w ∧ ∀ k, J k a w → m ≤ k := by
      intro n
      induction n with
      | zero => rintro ⟨k, hk, hj⟩; exact ⟨k, hj, fun q _ => by omega⟩
      | succ n ih =>
        rintro ⟨k, hk, hj⟩
        by_cases e : ∃ k, k ≤ n ∧ J k a w
        · exact ih e
        · refine ⟨k, hj, fun q hq => ?_⟩
          rcases Nat.lt_or_ge q k with h | h
          · exact absurd ⟨q, by omega, hq⟩ e
          · exact h
    exact this m ⟨m, Nat.le_refl _, hm⟩
  classical
  let μ : Act → World → Nat := fun a w => if h : ∃ m, J m a w then (key a w h).choose else 0
  have hμ : ∀ a w m, J m a w → J (μ a w) a w ∧ μ a w ≤ m := by
    intro a w m hm
    have hex : ∃ m, J m a w := ⟨m, hm⟩
    have := (key a w hex).choose_spec
    have e : μ a w = (key a w hex).choose := by simp only [μ]; rw [dif_pos hex]
    rw [e]
    exact ⟨this.1, this.2 m hm⟩
  refine wp_loop (fun a w => ∃ m, J m a w) μ ⟨m, st, Γ, .refl Γ, h1, h2, h3, h0⟩ ?_
  rintro a w ⟨m0, hm0⟩
  obtain ⟨hj, _⟩ := hμ a w m0 hm0
  obtain ⟨st', Γ', x1, x2, x3, x4, x6⟩ := hj
  refine Code.wp_mono ?_ (round (μ a w) st' x6 base w0 Γ' w a x2 x3 x4)
  rintro e a' w' ⟨st2, Γ2, y1, y2, y3, y4, y6⟩
  cases e with
  | normal =>
    obtain ⟨k, hk, hi⟩ := y6
    have hj2 : J k a' w' := ⟨st2, Γ2, x1.trans y1, y2, y3, y4, hi⟩
    exact ⟨⟨k, hj2⟩, Nat.lt_of_le_of_lt (hμ a' w' k hj2).2 hk⟩
  | exit id => exact ⟨st2, Γ2, x1.trans y1, y2, y3, y4, y6⟩
  | goto l => exact ⟨st2, Γ2, x1.trans y1, y2, y3, y4, y6⟩
  | ret => exact ⟨st2, Γ2, x1.trans y1, y2, y3, y4, y6⟩
  | panic ch => exact ⟨st2, Γ2, x1.trans y1, y2, y3, y4, y6⟩
  | outgrown => exact ⟨st2, Γ2, x1.trans y1, y2, y3, y4, y6⟩

/-! ### A function -/
theorem callFunc_run {f : FuncId} {fn : Func} {c : Code} (hf : P.funcs[f]? = some fn) (hb : fn.body = some c) (hn : (fn.name == "runtime.NumGoroutine") = false) (args : Array Value) (w : World) : (callFunc f args).run P w = .ok (.enter f args) w := by
  unfold callFunc
  simp only [Sem.run_bind]
  simp only [program, Sem.run, Result.andThen_ok, hf, hn, hb, Bool.false_eq_true, if_false, Option.isNone_some]
  rfl
/-- What a function hands back, by its result slots. -/
def result1 (P : Program) (st : PSt) : ResultVar → Option D
  | .tmp t => some (st.env.get t)
  | .cell a t => eLoad P t (st.env.get a) st.H
def resultsE (P : Program) (st : PSt) : List ResultVar → Option (List D)
  | [] => some []
  | r :: rs => match result1 P st r, resultsE P st rs with
    | some d, some ds => some (d :: ds)
    | _, _ => none
def tupD : List D → D
  | [d] => d
  | ds => .tup ds
/-- Calls that were put off, the last one first. -/
def runDefers (P : Program) : List (FuncId × List D) → Heap → (Heap → Prop) → Prop
  | [], H, K => K H
  | (f, ds) :: rest, H, K => DCalls P f ds H fun H' => runDefers P rest H' K
/-- The end of a call: what of the heap is still told is as R wants it. -/
def retPost (P : Program) (fn : Func) (R : D → Heap → Prop) : Exit → PSt → Prop
  | .normal, st | .ret, st => runDefers P st.df st.H fun H' => match resultsE P { st with H := H' } fn.results.toList with
    | some ds => R (tupD ds) H'
    | none => False
  | _, _ => False

def readResult (tmps : Array Value) : ResultVar → Sem Value
  | .tmp t => pure (tmps.getD t undef)
  | .cell x t => do loadVar t (← asAddr (tmps.getD x undef))
theorem results_eq (fn : Func) (tmps : Array Value) : results fn tmps = (do let vs ← fn.results.mapM (readResult tmps); pure (if h : vs.size = 1 then vs[0] else .tuple vs)) := by
  unfold results
  have e : (fun r => match r with | ResultVar.tmp t => (pure (tmps.getD t undef) : Sem Value) | ResultVar.cell a t => do loadVar t (← asAddr (tmps.getD a undef))) = readResult tmps := by
    funext r; cases r <;> rfl
  rw [← e]
  rfl
theorem results_run (hR : Rel P base w0 Γ st.H w) (hE : EnvRep P Γ st.env a.tmps) : ∀ (rs : List ResultVar) (ds : List D), resultsE P st rs = some ds →
    ∃ vs, (rs.mapM (readResult a.tmps)).run P w = .ok vs w ∧ RepAll P Γ ds vs
  | [], ds, h => by cases h; exact ⟨[], rfl, ⟨rfl, by simp⟩⟩
  | r :: rs, ds, h => by
    have cons : ∀ {v : Value} {d : D} {vs : List Value} {ds : List D}, Rep P Γ d v → RepAll P Γ ds vs → RepAll P Γ (d :: ds) (v :: vs) := fun hv hr =>
      ⟨by simp [hr.1], fun i d' v' hd' hv' => by
        cases i with
        | zero => simp at hd' hv'; subst hd'; subst hv'; exact hv
        | succ i => exact hr.2 i d' v' (by simpa using hd') (by simpa using hv')⟩
    simp only [resultsE] at h
    split at h
    case h_2 => cases h
    rename_i d ds' h1 h2
    cases h
    obtain ⟨vs, k1, k2⟩ := results_run hR hE rs _ h2
    cases r with
    | tmp t =>
      simp only [result1, Option.some.injEq] at h1
      subst h1
      refine ⟨a.tmps.getD t undef :: vs, ?_, cons (hE.ev (.tmp t)) k2⟩
      rw [List.mapM_cons, Sem.run_bind]
      simp only [readResult, Sem.run_pure, Result.andThen_ok, Sem.run_bind]
      rw [k1]
      rfl
    | cell x t =>
      simp only [result1] at h1
      have hx := hE.ev (.tmp x)
      obtain ⟨v, h3, h4⟩ := load_still hR hx h1
      refine ⟨v :: vs, ?_, cons h4 k2⟩
      rw [List.mapM_cons]
      have hrun : (readResult a.tmps (.cell x t)).run P w = .ok v w := by
        simp only [readResult]
        have e : a.eval (.tmp x) = a.tmps.getD x undef := rfl
        rw [e] at h3
        generalize a.tmps.getD x undef = u at *
        simp only [Instr.loadAt, Sem.run_bind] at h3 ⊢
        cases u with
        | pointer p => cases p with
          | some p => simpa [Instr.sureAddr, asAddr] using h3
          | none => simp [Instr.sureAddr] at h3
        | _ => simp [Instr.sureAddr] at h3
      rw [Sem.run_bind, hrun, Result.andThen_ok, Sem.run_bind, k1]
      rfl
theorem results_rep {fn : Func} {ds : List D} (hR : Rel P base w0 Γ st.H w) (hE : EnvRep P Γ st.env a.tmps) (h : resultsE P st fn.results.toList = some ds) : ∃ v, (results fn a.tmps).run P w = .ok v w ∧ Rep P Γ (tupD ds) v := by
  obtain ⟨vs, h1, h2⟩ := results_run hR hE _ _ h
  refine ⟨(if h : vs.toArray.size = 1 then vs.toArray[0] else .tuple vs.toArray), ?_, ?_⟩
  · rw [results_eq, Sem.run_bind, Array.mapM_eq_mapM_toList, Sem.run_map, h1]
    rfl
  · match ds, vs, h2 with
    | [], [], _ => exact .tup [] [] rfl (by simp)
    | [d], [v], h2 => exact h2.2 0 d v rfl rfl
    | d :: d2 :: ds, v :: v2 :: vs, h2 =>
      have := Rep.tup (P := P) (Γ := Γ) (d :: d2 :: ds) (v :: v2 :: vs) h2.1 h2.2
      simpa [tupD] using this
    | [], _ :: _, h2 => exact absurd h2.1 (by simp)
    | [_], [], h2 => exact absurd h2.1 (by simp)
    | [_], _ :: _ :: _, h2 => exact absurd h2.1 (by simp)
    | _ :: _ :: _, [], h2 => exact absurd h2.1 (by simp)
    | _ :: _ :: _, [_], h2 => exact absurd h2.1 (by simp)

def listTr : List D → Nat → Tr D → Tr D
  | [], _, t => t
  | d :: ds, i, t => listTr ds (i + 1) (Tr.set (some d) (i + 1) t i)
theorem listTr_get : ∀ (ds : List D) (i : Nat) (t : Tr D) (j : Nat), (∀ k, i ≤ k → t.get k = none) → (listTr ds i t).get j = if j < i then t.get j else ds[j - i]?
  | [], i, t, j, h => by
    simp only [listTr]
    split
    · rfl
    · rename_i e; rw [h j (by omega)]; simp
  | d :: ds, i, t, j, h => by
    simp only [listTr]
    rw [listTr_get ds (i + 1) _ j (fun k hk => by rw [Tr.get_set_ne _ _ _ _ _ (by omega) (by omega)]; exact h k (by omega))]
    by_cases e : j < i
    · rw [if_pos (by omega), if_pos e, Tr.get_set_ne _ _ _ _ _ (by omega) (by omega)]
    · rw [if_neg e]
      by_cases e' : j = i
      · subst e'
        rw [if_pos (by omega), Tr.get_set_same _ _ _ _ (by omega)]; simp
      · rw [if_neg (by omega)]
        rw [show j - i = (j - (i + 1)) + 1 by omega]; simp
def initEnv (n : Nat) (ds : List D) : Env := ⟨listTr ds 0 .nil, n⟩
theorem initEnv_get (n : Nat) (ds : List D) (i : Nat) : (initEnv n ds).get i = if i < n then ds.getD i (.val undef) else .undef := by
  unfold Env.get initEnv
  simp only [listTr_get ds 0 .nil i (fun _ _ => rfl), Nat.not_lt_zero, if_false, Nat.sub_zero, List.getD]
  cases ds[i]? <;> rfl
theorem initEnv_rep {ds : List D} {args : List Value} {m : Nat} (hA : RepAll P Γ ds args) (hn : ds.length ≤ m) : EnvRep P Γ (initEnv m ds) (args.toArray ++ Array.replicate (m - args.toArray.size) undef) ∧ (args.toArray ++ Array.replicate (m - args.toArray.size) undef).size = m := by
  have hl : args.length = ds.length := hA.1.symm
  have hsz : (args.toArray ++ Array.replicate (m - args.toArray.size) undef).size = m := by simp; omega
  refine ⟨⟨by rw [hsz]; rfl, fun t ht => ?_⟩, hsz⟩
  rw [hsz] at ht
  rw [initEnv_get, if_pos ht]
  rcases Nat.lt_or_ge t ds.length with hlt | hge
  · have hd : ds[t]? = some ds[t] := List.getElem?_eq_getElem hlt
    have hv : args[t]? = some (args[t]'(by omega)) := List.getElem?_eq_getElem (by omega)
    have := hA.2 t _ _ hd hv
    have e1 : ds.getD t (.val undef) = ds[t] := by simp [List.getD, hd]
    have e2 : (args.toArray ++ Array.replicate (m - args.toArray.size) undef).getD t undef = args[t]'(by omega) := by
      have : t < args.length := by omega
      simp [Array.getElem?_append, this]
    rw [e1, e2]; exact this
  · have e1 : ds.getD t (.val undef) = .val undef := by simp [List.getD, List.getElem?_eq_none hge]
    have e2 : (args.toArray ++ Array.replicate (m - args.toArray.size) undef).getD t undef = undef := by
      have h1 : ¬ t < args.length := by omega
      simp [Array.getElem?_append, h1, Array.getElem?_replicate]
      split <;> rfl
    rw [e1, e2]; exact .val _
theorem leaves_of {fn : Func} {R : D → Heap → Prop} {Γ0 : Gh} : ∀ (df : List (FuncId × List D)) (ds : List Deferred) (H : Heap) (Γ : Gh) (w : World), Γ0.le Γ → Rel P base w0 Γ H w → EnvRep P Γ st.env a.tmps → DefRep P Γ df ds →
    (runDefers P df H fun H' => match resultsE P { st with H := H' } fn.results.toList with | some rs => R (tupD rs) H' | none => False) →
    Leaves P fn a.tmps (fun e w' => ∃ v, e = .returned v ∧ ∃ Γ' H' d, Γ0.le Γ' ∧ Rel P base w0 Γ' H' w' ∧ Rep P Γ' d v ∧ R d H') ds .returning w
  | [], ds, H, Γ, w, h0, hR, hE, hD, hK => by
    have : ds = [] := List.eq_nil_of_length_eq_zero hD.1.symm
    subst this
    simp only [runDefers] at hK
    split at hK
    case h_2 => exact hK.elim
    rename_i rs hrs
    obtain ⟨v, h1, h2⟩ := results_rep (st := { st with H := H }) hR hE hrs
    exact ⟨v, h1, v, rfl, Γ, H, _, h0, hR, h2, hK⟩
  | (f, xs) :: df, ds, H, Γ, w, h0, hR, hE, hD, hK => by
    cases ds with
    | nil => exact absurd hD.1 (by simp)
    | cons d ds =>
      obtain ⟨cap, ht, hra⟩ := hD.2 0 f xs d rfl rfl
      obtain ⟨c1, c2⟩ := hK
      have hD' : DefRep P Γ df ds := ⟨by simpa using hD.1, fun i g ys d' hi hd => hD.2 (i + 1) g ys d' (by simpa using hi) (by simpa using hd)⟩
      refine ⟨by simp, .func f, cap, f, (d.args.toList ++ cap.toList).toArray, ht, ?_, (c2 base w0 Γ w _ hR hra).mono ?_⟩
      · rw [ht]
        have : (d.args.toList ++ cap.toList).toArray = d.args ++ cap := by apply Array.ext'; simp
        rw [this]
        exact c1 _ w
      · rintro e u' w' ⟨rfl, v, Γ', H', rfl, x1, x2, x3⟩
        exact leaves_of df ds H' Γ' w' (h0.trans x1) x2 (hE.mono x1) (hD'.mono x1) x3

theorem PCalls.of_pwp {f : FuncId} {fn : Func} {c : Code} {ds : List D} {H : Heap} {R : D → Heap → Prop} (hc : ∀ args w, (callFunc f args).run P w = .ok (.enter f args) w) (hf : P.funcs[f]? = some fn) (hb : fn.body = some c)
    (hn : ds.length ≤ fn.ntmps) (h : pwp P fn.ntmps c (retPost P fn R) ⟨initEnv fn.ntmps ds, H, []⟩) : PCalls P f ds H R := by
  intro base w0 Γ w args hR hA
  rw [hc]
  show Calls P f args.toArray w _
  obtain ⟨hE, hsz⟩ := initEnv_rep hA hn
  refine calls_of_wp_defers hf hb ?_
  have hwp := h base w0 Γ w ⟨args.toArray ++ Array.replicate (fn.ntmps - args.toArray.size) undef, []⟩ hR ⟨hE, rfl, by simp⟩ hsz
  refine Code.wp_mono ?_ hwp
  rintro e a' w' ⟨st, Γ', x1, x2, x3, x4, x6⟩
  cases e with
  | normal => exact leaves_of st.df a'.defers st.H Γ' w' x1 x2 x3.env x3.df x6
  | ret => exact leaves_of st.df a'.defers st.H Γ' w' x1 x2 x3.env x3.df x6
  | exit id => exact x6.elim
  | goto l => exact x6.elim
  | panic ch => exact x6.elim
  | outgrown => exact x6.elim
end
end Go.Pv
