/- The code, by its parts. -/
import Derived.Test.YtmaajijhfpdefaaPwWp
namespace Go.Pw
open Go.RowKit

/-- A list of a region's operations, in the text's order. -/
def pops (P : Program) (ops : Array Oper) : List Oper → (PSt → Prop) → PSt → Prop
  | [], K, st => K st
  | o :: rest, K, st =>
    match o.guard with
    | none => pop P o st fun d H' => pops P ops rest K (PSt.put ⟨st.env, H'⟩ o.dst d)
    | some (j, b) => match guardD ops st j with
      | some (some t) => (t = b → pop P o st fun d H' => pops P ops rest K (PSt.put ⟨st.env, H'⟩ o.dst d)) ∧ (t = !b → pops P ops rest K (st.put o.dst (.val undef)))
      | some none => pops P ops rest K (st.put o.dst (.val undef))
      | none => False

/-- Every slot that is written is there. -/
def fits (n : Nat) (ops : List Oper) : Bool := ops.all fun o => match o.dst with | some t => decide (t < n) | none => true

/-- What is told of a way out: the state, and that the world fits it. -/
def Post (P : Program) (base : Nat) (w0 : World) (Γ0 : Gh) (n : Nat) (Q : Exit → PSt → Prop) : Exit → Act → World → Prop := fun e a w =>
  ∃ st Γ, Γ0.le Γ ∧ Rel P base w0 Γ st.H w ∧ EnvRep P Γ st.env a.tmps ∧ a.tmps.size = n ∧ a.defers = [] ∧ Q e st
def pwp (P : Program) (n : Nat) (c : Code) (Q : Exit → PSt → Prop) (st : PSt) : Prop :=
  ∀ base w0 Γ w a, Rel P base w0 Γ st.H w → EnvRep P Γ st.env a.tmps → a.tmps.size = n → a.defers = [] → c.wp P (Post P base w0 Γ n Q) a w

section
variable {P : Program} {n : Nat} {base : Nat} {w0 : World} {Γ : Gh} {w : World} {st : PSt} {a : Act} {Q : Exit → PSt → Prop}

theorem Post.le {Γ0 Γ1 : Gh} (hle : Γ0.le Γ1) {e : Exit} {a : Act} {w : World} (h : Post P base w0 Γ1 n Q e a w) : Post P base w0 Γ0 n Q e a w := by
  obtain ⟨st, Γ, h1, h2⟩ := h
  exact ⟨st, Γ, hle.trans h1, h2⟩
theorem put_size (a : Act) (d : Option Tmp) (v : Value) : (a.put d v).tmps.size = a.tmps.size := by cases d <;> simp [Act.put]
theorem put_defers (a : Act) (d : Option Tmp) (v : Value) : (a.put d v).defers = a.defers := by cases d <;> rfl

theorem guard_yield {ops : Array Oper} {j : Nat} {r : Option Bool} (hE : EnvRep P Γ st.env a.tmps) (hg : guardD ops st j = some r) : yielded ops a.tmps j = r := by
  unfold guardD at hg
  unfold yielded
  split at hg
  · rename_i t ht
    rw [ht]
    split at hg
    · rename_i b he
      cases hg
      rcases Nat.lt_or_ge t a.tmps.size with hlt | hge
      · have := hE.rep t hlt
        rw [he] at this
        have hv := rep_val this
        have : a.tmps[t]? = some (.bool b) := by
          have e : a.tmps.getD t undef = a.tmps[t] := by simp [hlt]
          rw [e] at hv
          rw [Array.getElem?_eq_getElem hlt, hv]
        simp [this]
      · have := hE.out t hge
        rw [he] at this; cases this
    · rename_i vs he
      cases hg
      rcases Nat.lt_or_ge t a.tmps.size with hlt | hge
      · have := hE.rep t hlt
        rw [he] at this
        have hv := rep_val this
        have : a.tmps[t]? = some (.tuple vs) := by
          have e : a.tmps.getD t undef = a.tmps[t] := by simp [hlt]
          rw [e] at hv
          rw [Array.getElem?_eq_getElem hlt, hv]
        simp [this]
      · have := hE.out t hge
        rw [he] at this; cases this
    · cases hg
  · rename_i ht
    cases hg
    rw [ht]; rfl

/-- One step of a region, guard and all. -/
theorem step_sound {ops : Array Oper} {o : Oper} {K : PSt → Prop} {next : Act → World → Prop} {Q' : Exit → Act → World → Prop} (hd : ∀ t, o.dst = some t → t < a.tmps.size) (hR : Rel P base w0 Γ st.H w) (hE : EnvRep P Γ st.env a.tmps)
    (hK : pops P ops [o] K st) (hn : ∀ st' Γ' w' a', Γ.le Γ' → Rel P base w0 Γ' st'.H w' → EnvRep P Γ' st'.env a'.tmps → a'.tmps.size = a.tmps.size → a'.defers = a.defers → K st' → next a' w') :
    if Region.wanted o (yielded ops a.tmps) then o.wp P a w next Q' else next (a.put o.dst undef) w := by
  have run : (pop P o st fun d H' => K (PSt.put ⟨st.env, H'⟩ o.dst d)) → o.wp P a w next Q' := fun h => by
    refine pop_sound h hR hE ?_
    intro d H' Γ' w' v hle hR' hrep hk
    refine hn (PSt.put ⟨st.env, H'⟩ o.dst d) Γ' w' (a.put o.dst v) hle ?_ ?_ (put_size _ _ _) (put_defers _ _ _) hk
    · cases o.dst <;> exact hR'
    · exact EnvRep.put (st := ⟨st.env, H'⟩) (hE.mono hle) hd hrep
  have skip : K (st.put o.dst (.val undef)) → next (a.put o.dst undef) w := fun h => by
    refine hn (st.put o.dst (.val undef)) Γ w (a.put o.dst undef) (.refl Γ) ?_ (hE.put hd (.val _)) (put_size _ _ _) (put_defers _ _ _) h
    cases o.dst <;> exact hR
  unfold Region.wanted
  simp only [pops] at hK
  split at hK
  · rename_i hg
    simp only [hg, if_true]
    exact run hK
  · rename_i j b hg
    simp only [hg]
    split at hK
    · rename_i t ht
      rw [guard_yield hE ht]
      by_cases e : t = b
      · subst e; simp; exact run (hK.1 rfl)
      · have e' : t = !b := by cases t <;> cases b <;> simp_all
        have e2 : (some t == some b) = false := by simp [e]
        simp only [e2, Bool.false_eq_true, if_false]
        exact skip (hK.2 e')
    · rename_i ht
      rw [guard_yield hE ht]
      have e2 : ((none : Option Bool) == some b) = false := rfl
      simp only [e2, Bool.false_eq_true, if_false]
      exact skip hK
    · exact hK.elim

theorem pops_cons (ops : Array Oper) (o : Oper) (rest : List Oper) (K : PSt → Prop) (st : PSt) : pops P ops (o :: rest) K st ↔ pops P ops [o] (pops P ops rest K) st := Iff.rfl

theorem pops_sound {ops : Array Oper} {Γ0 : Gh} : ∀ (l : List Oper) {st : PSt} {Γ : Gh} {w : World} {a : Act}, fits n l = true → Γ0.le Γ → Rel P base w0 Γ st.H w → EnvRep P Γ st.env a.tmps → a.tmps.size = n → a.defers = [] →
    pops P ops l (fun st' => Q .normal st') st → wpList P ops (Post P base w0 Γ0 n Q) l a w
  | [], st, Γ, w, a, _, h0, hR, hE, hn, hd, hK => ⟨st, Γ, h0, hR, hE, hn, hd, hK⟩
  | o :: l, st, Γ, w, a, hf, h0, hR, hE, hn, hd, hK => by
    simp only [fits, List.all_cons, Bool.and_eq_true] at hf
    have hdst : ∀ t, o.dst = some t → t < a.tmps.size := fun t ht => by
      have := hf.1; rw [ht] at this; rw [hn]; simpa using this
    have := step_sound (next := wpList P ops (Post P base w0 Γ0 n Q) l) (Q' := Post P base w0 Γ0 n Q) hdst hR hE hK
      (fun st' Γ' w' a' hle hR' hE' hs' hd' hk => pops_sound l (by simpa [fits] using hf.2) (h0.trans hle) hR' hE' (hs'.trans hn) (hd'.trans hd) hk)
    unfold wpList
    split
    · rename_i hw; rw [if_pos hw] at this; exact .inl this
    · rename_i hw; rw [if_neg hw] at this; exact this

/-! ### Code -/
theorem pwp_mono {c : Code} {Q Q' : Exit → PSt → Prop} (h : pwp P n c Q st) (hq : ∀ e st, Q e st → Q' e st) : pwp P n c Q' st :=
  fun base w0 Γ w a h1 h2 h3 h4 => Code.wp_mono (fun e a w ⟨st, Γ, x1, x2, x3, x4, x5, x6⟩ => ⟨st, Γ, x1, x2, x3, x4, x5, hq _ _ x6⟩) (h base w0 Γ w a h1 h2 h3 h4)
theorem pwp_region {id : Nat} {ops : List Oper} (hf : fits n ops = true) (h : pops P ops.toArray ops (fun st' => Q .normal st') st) : pwp P n (.region id ops.toArray false) Q st :=
  fun base w0 Γ w a h1 h2 h3 h4 => wp_region_lit (pops_sound ops hf (.refl Γ) h1 h2 h3 h4 h)
theorem pwp_skip (h : Q .normal st) : pwp P n .skip Q st := fun base w0 Γ w a h1 h2 h3 h4 => wp_skip ⟨st, Γ, .refl Γ, h1, h2, h3, h4, h⟩
theorem pwp_label {l : Nat} (h : Q .normal st) : pwp P n (.label l) Q st := fun base w0 Γ w a h1 h2 h3 h4 => wp_label ⟨st, Γ, .refl Γ, h1, h2, h3, h4, h⟩
theorem pwp_exit {id : Nat} (h : Q (.exit id) st) : pwp P n (.exit id) Q st := fun base w0 Γ w a h1 h2 h3 h4 => wp_exit ⟨st, Γ, .refl Γ, h1, h2, h3, h4, h⟩
theorem pwp_goto {id : Nat} (h : Q (.goto id) st) : pwp P n (.goto id) Q st := fun base w0 Γ w a h1 h2 h3 h4 => wp_goto ⟨st, Γ, .refl Γ, h1, h2, h3, h4, h⟩
theorem pwp_ret (h : Q .ret st) : pwp P n .ret Q st := fun base w0 Γ w a h1 h2 h3 h4 => wp_ret ⟨st, Γ, .refl Γ, h1, h2, h3, h4, h⟩
def thenP (next : PSt → Prop) (Q : Exit → PSt → Prop) : Exit → PSt → Prop
  | .normal, st => next st
  | e, st => Q e st
theorem pwp_seq {x y : Code} (h : pwp P n x (thenP (pwp P n y Q) Q) st) : pwp P n (.seq x y) Q st := by
  intro base w0 Γ w a h1 h2 h3 h4
  refine wp_seq (Code.wp_mono ?_ (h base w0 Γ w a h1 h2 h3 h4))
  rintro e a' w' ⟨st', Γ', x1, x2, x3, x4, x5, x6⟩
  cases e with
  | normal => exact Code.wp_mono (fun e a w q => q.le x1) (x6 base w0 Γ' w' a' x2 x3 x4 x5)
  | exit id => exact ⟨st', Γ', x1, x2, x3, x4, x5, x6⟩
  | goto l => exact ⟨st', Γ', x1, x2, x3, x4, x5, x6⟩
  | ret => exact ⟨st', Γ', x1, x2, x3, x4, x5, x6⟩
  | panic ch => exact ⟨st', Γ', x1, x2, x3, x4, x5, x6⟩
  | outgrown => exact ⟨st', Γ', x1, x2, x3, x4, x5, x6⟩
theorem pwp_cond {c : Operand} {x y : Code} {t : Bool} (hc : st.ev c = .val (.bool t)) (ht : t = true → pwp P n x Q st) (hf : t = false → pwp P n y Q st) : pwp P n (.cond c x y) Q st := by
  intro base w0 Γ w a h1 h2 h3 h4
  have hv := h2.ev c
  rw [hc] at hv
  have hv' := rep_val hv
  cases t
  · exact wp_cond_false hv' (hf rfl base w0 Γ w a h1 h2 h3 h4)
  · exact wp_cond_true hv' (ht rfl base w0 Γ w a h1 h2 h3 h4)
def inBlockP (id : Nat) (Q : Exit → PSt → Prop) : Exit → PSt → Prop
  | .exit id', st => if id' = id then Q .normal st else Q (.exit id') st
  | e, st => Q e st
theorem pwp_block {id : Nat} {c : Code} (h : pwp P n c (inBlockP id Q) st) : pwp P n (.block id c) Q st := by
  intro base w0 Γ w a h1 h2 h3 h4
  refine wp_block (Code.wp_mono ?_ (h base w0 Γ w a h1 h2 h3 h4))
  rintro e a' w' ⟨st', Γ', x1, x2, x3, x4, x5, x6⟩
  cases e with
  | exit id' =>
    simp only [Exit.inBlock, inBlockP] at x6 ⊢
    split
    · rename_i e; rw [if_pos e] at x6; exact ⟨st', Γ', x1, x2, x3, x4, x5, x6⟩
    · rename_i e; rw [if_neg e] at x6; exact ⟨st', Γ', x1, x2, x3, x4, x5, x6⟩
  | normal => exact ⟨st', Γ', x1, x2, x3, x4, x5, x6⟩
  | goto l => exact ⟨st', Γ', x1, x2, x3, x4, x5, x6⟩
  | ret => exact ⟨st', Γ', x1, x2, x3, x4, x5, x6⟩
  | panic ch => exact ⟨st', Γ', x1, x2, x3, x4, x5, x6⟩
  | outgrown => exact ⟨st', Γ', x1, x2, x3, x4, x5, x6⟩
/-- A loop: what holds at each round's head, with a number that goes down. -/
theorem pwp_loop {c : Code} (I : Nat → PSt → Prop) (m : Nat) (h0 : I m st) (round : ∀ m st, I m st → pwp P n c (thenP (fun st' => ∃ k, k < m ∧ I k st') Q) st) : pwp P n (.loop c) Q st := by
  intro base w0 Γ w a h1 h2 h3 h4
  let J : Nat → Act → World → Prop := fun m a w => ∃ st' Γ', Γ.le Γ' ∧ Rel P base w0 Γ' st'.H w ∧ EnvRep P Γ' st'.env a.tmps ∧ a.tmps.size = n ∧ a.defers = [] ∧ I m st'
  have key : ∀ (a : Act) (w : World), (∃ m, J m a w) → ∃ m, J m a w ∧ ∀ k, J k a w → m ≤ k := by
    intro a w ⟨m, hm⟩
    have : ∀ n, (∃ k, k ≤ n ∧ J k a w) → ∃ m, J m a w ∧ ∀ k, J k a w → m ≤ k := by
      intro n
      induction n with
      | zero => rintro ⟨k, hk, hj⟩; exact ⟨k, hj, fun q _ => by omega⟩
      | succ n ih =>
        rintro ⟨k, hk, hj⟩
        by_cases e : ∃ k, k ≤ n ∧ J k a w
        · exact ih e
        · refine ⟨k, hj, fun q hq => ?_⟩
          rcases Nat.lt_or_ge q k with h | h
          · exact absurd ⟨q, by omega, hq⟩ e
          · exact h
    exact this m ⟨m, Nat.le_refl _, hm⟩
  classical
  let μ : Act → World → Nat := fun a w => if h : ∃ m, J m a w then (key a w h).choose else 0
  have hμ : ∀ a w m, J m a w → J (μ a w) a w ∧ μ a w ≤ m := by
    intro a w m hm
    have hex : ∃ m, J m a w := ⟨m, hm⟩
    have := (key a w hex).choose_spec
    have e : μ a w = (key a w hex).choose := by simp only [μ]; rw [dif_pos hex]
    rw [e]
    exact ⟨this.1, this.2 m hm⟩
  refine wp_loop (fun a w => ∃ m, J m a w) μ ⟨m, st, Γ, .refl Γ, h1, h2, h3, h4, h0⟩ ?_
  rintro a w ⟨m0, hm0⟩
  obtain ⟨hj, _⟩ := hμ a w m0 hm0
  obtain ⟨st', Γ', x1, x2, x3, x4, x5, x6⟩ := hj
  refine Code.wp_mono ?_ (round (μ a w) st' x6 base w0 Γ' w a x2 x3 x4 x5)
  rintro e a' w' ⟨st2, Γ2, y1, y2, y3, y4, y5, y6⟩
  cases e with
  | normal =>
    obtain ⟨k, hk, hi⟩ := y6
    have hj2 : J k a' w' := ⟨st2, Γ2, x1.trans y1, y2, y3, y4, y5, hi⟩
    exact ⟨⟨k, hj2⟩, Nat.lt_of_le_of_lt (hμ a' w' k hj2).2 hk⟩
  | exit id => exact ⟨st2, Γ2, x1.trans y1, y2, y3, y4, y5, y6⟩
  | goto l => exact ⟨st2, Γ2, x1.trans y1, y2, y3, y4, y5, y6⟩
  | ret => exact ⟨st2, Γ2, x1.trans y1, y2, y3, y4, y5, y6⟩
  | panic ch => exact ⟨st2, Γ2, x1.trans y1, y2, y3, y4, y5, y6⟩
  | outgrown => exact ⟨st2, Γ2, x1.trans y1, y2, y3, y4, y5, y6⟩

/-! ### A function -/
/-- What a function hands back, by its result slots. -/
def results1 (P : Program) (st : PSt) (r : ResultVar) (K : D → Prop) : Prop :=
  match r with
  | .tmp t => K (st.env t)
  | .cell a t => pLoad P t (st.env a) st.H K
def resultsD (P : Program) (st : PSt) : List ResultVar → (List D → Prop) → Prop
  | [], K => K []
  | r :: rs, K => results1 P st r fun d => resultsD P st rs fun ds => K (d :: ds)
def tupD : List D → D
  | [d] => d
  | ds => .tup ds
/-- The end of a call: what of the heap is still told is as R wants it. -/
def retPost (P : Program) (fn : Func) (R : D → Heap → Prop) : Exit → PSt → Prop
  | .normal, st | .ret, st => resultsD P st fn.results.toList fun ds => ∃ H', (∀ i o, H' i = some o → st.H i = some o) ∧ R (tupD ds) H'
  | _, _ => False

def readResult (tmps : Array Value) : ResultVar → Sem Value
  | .tmp t => pure (tmps.getD t undef)
  | .cell x t => do loadVar t (← asAddr (tmps.getD x undef))
theorem results_eq (fn : Func) (tmps : Array Value) : results fn tmps = (do let vs ← fn.results.mapM (readResult tmps); pure (if h : vs.size = 1 then vs[0] else .tuple vs)) := by
  unfold results
  have e : (fun r => match r with | ResultVar.tmp t => (pure (tmps.getD t undef) : Sem Value) | ResultVar.cell a t => do loadVar t (← asAddr (tmps.getD a undef))) = readResult tmps := by
    funext r; cases r <;> rfl
  rw [← e]
  rfl
theorem results_run (hR : Rel P base w0 Γ st.H w) (hE : EnvRep P Γ st.env a.tmps) : ∀ (rs : List ResultVar) (K : List D → Prop), resultsD P st rs K →
    ∃ vs ds, (rs.mapM (readResult a.tmps)).run P w = .ok vs w ∧ RepAll P Γ ds vs ∧ K ds
  | [], K, h => ⟨[], [], rfl, ⟨rfl, by simp⟩, h⟩
  | r :: rs, K, h => by
    have cons : ∀ {v : Value} {d : D} {vs : List Value} {ds : List D}, Rep P Γ d v → RepAll P Γ ds vs → RepAll P Γ (d :: ds) (v :: vs) := fun hv hr =>
      ⟨by simp [hr.1], fun i d' v' hd' hv' => by
        cases i with
        | zero => simp at hd' hv'; subst hd'; subst hv'; exact hv
        | succ i => exact hr.2 i d' v' (by simpa using hd') (by simpa using hv')⟩
    cases r with
    | tmp t =>
      obtain ⟨vs, ds, h1, h2, h3⟩ := results_run hR hE rs _ h
      refine ⟨a.tmps.getD t undef :: vs, st.env t :: ds, ?_, cons (hE.ev (.tmp t)) h2, h3⟩
      rw [List.mapM_cons, Sem.run_bind]
      simp only [readResult, Sem.run_pure, Result.andThen_ok, Sem.run_bind]
      rw [h1]
      rfl
    | cell x t =>
      simp only [resultsD, results1] at h
      have hx := hE.ev (.tmp x)
      obtain ⟨v, d, h1, h2, h3⟩ := load_still hR hx h
      obtain ⟨vs, ds, k1, k2, k3⟩ := results_run hR hE rs _ h3
      refine ⟨v :: vs, d :: ds, ?_, cons h2 k2, k3⟩
      rw [List.mapM_cons]
      have hrun : (readResult a.tmps (.cell x t)).run P w = .ok v w := by
        simp only [readResult]
        have e : a.eval (.tmp x) = a.tmps.getD x undef := rfl
        rw [e] at h1
        generalize a.tmps.getD x undef = u at *
        simp only [Instr.loadAt, Sem.run_bind] at h1 ⊢
        cases u with
        | pointer p => cases p with
          | some p => simpa [Instr.sureAddr, asAddr] using h1
          | none => simp [Instr.sureAddr] at h1
        | _ => simp [Instr.sureAddr] at h1
      rw [Sem.run_bind, hrun, Result.andThen_ok, Sem.run_bind, k1]
      rfl

def initEnv (n : Nat) (ds : List D) : Nat → D := fun i => if i < n then ds.getD i (.val undef) else .undef

theorem PCalls.of_pwp {f : FuncId} {fn : Func} {c : Code} {ds : List D} {H : Heap} {R : D → Heap → Prop} (hc : ∀ args w, (callFunc f args).run P w = .ok (.enter f args) w) (hf : P.funcs[f]? = some fn) (hb : fn.body = some c)
    (hn : ds.length ≤ fn.ntmps) (h : pwp P fn.ntmps c (retPost P fn R) ⟨initEnv fn.ntmps ds, H⟩) : PCalls P f ds H R := by
  refine ⟨hc, fun base w0 Γ w args hR hA => ?_⟩
  refine calls_of_wp hf hb ?_
  have hl : args.length = ds.length := hA.1.symm
  have hE : EnvRep P Γ (initEnv fn.ntmps ds) (args.toArray ++ Array.replicate (fn.ntmps - args.toArray.size) undef) := by
    have hsz : (args.toArray ++ Array.replicate (fn.ntmps - args.toArray.size) undef).size = fn.ntmps := by simp; omega
    refine ⟨fun t ht => ?_, fun t ht => ?_⟩
    · rw [hsz] at ht
      simp only [initEnv, if_pos ht]
      rcases Nat.lt_or_ge t ds.length with hlt | hge
      · have hd : ds[t]? = some ds[t] := List.getElem?_eq_getElem hlt
        have hv : args[t]? = some (args[t]'(by omega)) := List.getElem?_eq_getElem (by omega)
        have := hA.2 t _ _ hd hv
        have e1 : ds.getD t (.val undef) = ds[t] := by simp [List.getD, hd]
        have e2 : (args.toArray ++ Array.replicate (fn.ntmps - args.toArray.size) undef).getD t undef = args[t]'(by omega) := by
          have : t < args.length := by omega
          simp [Array.getElem?_append, this]
        rw [e1, e2]; exact this
      · have e1 : ds.getD t (.val undef) = .val undef := by simp [List.getD, List.getElem?_eq_none hge]
        have e2 : (args.toArray ++ Array.replicate (fn.ntmps - args.toArray.size) undef).getD t undef = undef := by
          have h1 : ¬ t < args.length := by omega
          simp [Array.getElem?_append, h1, Array.getElem?_replicate]
          split <;> rfl
        rw [e1, e2]; exact .val _
    · rw [hsz] at ht
      simp only [initEnv, if_neg (Nat.not_lt.2 ht)]
  have hwp := h base w0 Γ w ⟨args.toArray ++ Array.replicate (fn.ntmps - args.toArray.size) undef, []⟩ hR hE (by simp; omega) rfl
  refine Code.wp_mono ?_ hwp
  rintro e a' w' ⟨st, Γ', x1, x2, x3, x4, x5, x6⟩
  have fin : (resultsD P st fn.results.toList fun ds => ∃ H', (∀ i o, H' i = some o → st.H i = some o) ∧ R (tupD ds) H') →
      a'.defers = [] ∧ ∃ v, (results fn a'.tmps).run P w' = .ok v w' ∧ ∃ v' Γ' H' d, Ending.returned v = .returned v' ∧ Γ.le Γ' ∧ Rel P base w0 Γ' H' w' ∧ Rep P Γ' d v' ∧ R d H' := by
    intro hr
    obtain ⟨vs, ds', h1, h2, H', h3, h4⟩ := results_run x2 x3 _ _ hr
    refine ⟨x5, (if h : vs.toArray.size = 1 then vs.toArray[0] else .tuple vs.toArray), ?_, _, Γ', H', tupD ds', rfl, x1, x2.sub h3, ?_, h4⟩
    · rw [results_eq, Sem.run_bind, Array.mapM_eq_mapM_toList, Sem.run_map, h1]
      rfl
    · match ds', vs, h2 with
      | [], [], _ => exact .tup [] [] rfl (by simp)
      | [d], [v], h2 => exact h2.2 0 d v rfl rfl
      | d :: d2 :: ds, v :: v2 :: vs, h2 =>
        have := Rep.tup (P := P) (Γ := Γ') (d :: d2 :: ds) (v :: v2 :: vs) h2.1 h2.2
        simpa [tupD] using this
      | [], _ :: _, h2 => exact absurd h2.1 (by simp)
      | [_], [], h2 => exact absurd h2.1 (by simp)
      | [_], _ :: _ :: _, h2 => exact absurd h2.1 (by simp)
      | _ :: _ :: _, [], h2 => exact absurd h2.1 (by simp)
      | _ :: _ :: _, [_], h2 => exact absurd h2.1 (by simp)
  cases e with
  | normal => exact fin x6
  | ret => exact fin x6
  | exit id => exact x6.elim
  | goto l => exact x6.elim
  | panic ch => exact x6.elim
  | outgrown => exact x6.elim
end
end Go.Pw
