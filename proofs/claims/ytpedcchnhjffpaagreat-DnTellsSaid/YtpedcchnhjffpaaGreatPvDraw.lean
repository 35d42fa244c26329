/- Operations whose order is left open. -/
import Derived.Test.YtpedcchnhjffpaaGreatPvWp
namespace Go.Pv
open Go.RowKit

/-! ### Regions -/
/-- A list of a region's operations, in the text's order. -/
def pops (P : Program) (ops : Array Oper) : List Oper → (PSt → Prop) → PSt → Prop
  | [], K, st => K st
  | o :: rest, K, st =>
    match o.guard with
    | none => popS P o st (pops P ops rest K)
    | some (j, b) => match guardD ops st j with
      | some (some t) => if t = b then popS P o st (pops P ops rest K) else pops P ops rest K (st.put o.dst (.val undef))
      | some none => pops P ops rest K (st.put o.dst (.val undef))
      | none => False
/-- What is told of a way out: the state, and that the world fits it. -/
def Post (P : Program) (base : Prot) (w0 : World) (Γ0 : Gh) (n : Nat) (Q : Exit → PSt → Prop) : Exit → Act → World → Prop := fun e a w =>
  ∃ st Γ, Γ0.le Γ ∧ Rel P base w0 Γ st.H w ∧ StRep P Γ st a ∧ a.tmps.size = n ∧ Q e st
def pwp (P : Program) (n : Nat) (c : Code) (Q : Exit → PSt → Prop) (st : PSt) : Prop :=
  ∀ base w0 Γ w a, Rel P base w0 Γ st.H w → StRep P Γ st a → a.tmps.size = n → c.wp P (Post P base w0 Γ n Q) a w

section
variable {P : Program} {n : Nat} {base : Prot} {w0 : World} {Γ : Gh} {w : World} {st : PSt} {a : Act} {Q : Exit → PSt → Prop}

theorem Post.le {Γ0 Γ1 : Gh} (hle : Γ0.le Γ1) {e : Exit} {a : Act} {w : World} (h : Post P base w0 Γ1 n Q e a w) : Post P base w0 Γ0 n Q e a w := by
  obtain ⟨st, Γ, h1, h2⟩ := h
  exact ⟨st, Γ, hle.trans h1, h2⟩
theorem guard_yield {ops : Array Oper} {j : Nat} {r : Option Bool} (hE : EnvRep P Γ st.env a.tmps) (hg : guardD ops st j = some r) : yielded ops a.tmps j = r := by
  unfold guardD at hg
  unfold yielded
  split at hg
  · rename_i t ht
    rw [ht]
    have at_ : ∀ v, st.env.get t = .val v → a.tmps[t]? = some v := by
      intro v he
      rcases Nat.lt_or_ge t a.tmps.size with hlt | hge
      · have := hE.rep t hlt
        rw [he] at this
        have hv := rep_val this
        have e : a.tmps.getD t undef = a.tmps[t] := by simp [hlt]
        rw [e] at hv
        rw [Array.getElem?_eq_getElem hlt, hv]
      · have := st.env.get_out t (by rw [hE.size]; exact hge)
        rw [he] at this; cases this
    split at hg
    · rename_i b he
      cases hg
      simp [at_ _ he]
    · rename_i vs he
      cases hg
      simp [at_ _ he]
    · cases hg
  · rename_i ht
    cases hg
    rw [ht]; rfl

/-- One step of a region, guard and all. -/
theorem step_sound {ops : Array Oper} {o : Oper} {K : PSt → Prop} {next : Act → World → Prop} {Q' : Exit → Act → World → Prop} (hR : Rel P base w0 Γ st.H w) (hE : StRep P Γ st a)
    (hK : pops P ops [o] K st) (hn : ∀ st' Γ' w' a', Γ.le Γ' → Rel P base w0 Γ' st'.H w' → StRep P Γ' st' a' → a'.tmps.size = a.tmps.size → K st' → next a' w') :
    if Region.wanted o (yielded ops a.tmps) then o.wp P a w next Q' else next (a.put o.dst undef) w := by
  have run : popS P o st K → o.wp P a w next Q' := fun h => popS_sound h hR hE hn
  have skip : K (st.put o.dst (.val undef)) → next (a.put o.dst undef) w := fun h =>
    hn (st.put o.dst (.val undef)) Γ w (a.put o.dst undef) (.refl Γ) (by rw [put_H]; exact hR) (hE.put (.val _)) (actPut_size _ _ _) h
  unfold Region.wanted
  simp only [pops] at hK
  split at hK
  · rename_i hg
    simp only [hg, if_true]
    exact run hK
  · rename_i j b hg
    simp only [hg]
    split at hK
    · rename_i t ht
      rw [guard_yield hE.env ht]
      split at hK
      · rename_i e; subst e; simp; exact run hK
      · rename_i e
        have e2 : (some t == some b) = false := by simp [e]
        simp only [e2, Bool.false_eq_true, if_false]
        exact skip hK
    · rename_i ht
      rw [guard_yield hE.env ht]
      have e2 : ((none : Option Bool) == some b) = false := rfl
      simp only [e2, Bool.false_eq_true, if_false]
      exact skip hK
    · exact hK.elim

theorem pops_cons (ops : Array Oper) (o : Oper) (rest : List Oper) (K : PSt → Prop) (st : PSt) : pops P ops (o :: rest) K st ↔ pops P ops [o] (pops P ops rest K) st := Iff.rfl

theorem pops_sound {ops : Array Oper} {Γ0 : Gh} : ∀ (l : List Oper) {st : PSt} {Γ : Gh} {w : World} {a : Act}, Γ0.le Γ → Rel P base w0 Γ st.H w → StRep P Γ st a → a.tmps.size = n →
    pops P ops l (fun st' => Q .normal st') st → wpList P ops (Post P base w0 Γ0 n Q) l a w
  | [], st, Γ, w, a, h0, hR, hE, hn, hK => ⟨st, Γ, h0, hR, hE, hn, hK⟩
  | o :: l, st, Γ, w, a, h0, hR, hE, hn, hK => by
    have := step_sound (next := wpList P ops (Post P base w0 Γ0 n Q) l) (Q' := Post P base w0 Γ0 n Q) hR hE hK
      (fun st' Γ' w' a' hle hR' hE' hs' hk => pops_sound l (h0.trans hle) hR' hE' (hs'.trans hn) hk)
    unfold wpList
    split
    · rename_i hw; rw [if_pos hw] at this; exact .inl this
    · rename_i hw; rw [if_neg hw] at this; exact this
end

/-! ### Operations whose order is left open -/
theorem Tr.set_swap {α : Type} (o p : Option α) : ∀ (n m : Nat) (t : Tr α) (i j : Nat), i < n → j < m → i ≠ j → Tr.set p m (Tr.set o n t i) j = Tr.set o n (Tr.set p m t j) i
  | 0, _, _, _, _, h, _, _ => by omega
  | _, 0, _, _, _, _, h, _ => by omega
  | n + 1, m + 1, t, i, j, hi, hj, hne => by
    by_cases i0 : i = 0
    · subst i0
      have j0 : j ≠ 0 := fun e => hne e.symm
      by_cases j1 : j % 2 = 1 <;> cases t <;> simp [Tr.set, j0, j1]
    · by_cases j0 : j = 0
      · subst j0
        by_cases i1 : i % 2 = 1 <;> cases t <;> simp [Tr.set, i0, i1]
      · by_cases i1 : i % 2 = 1 <;> by_cases j1 : j % 2 = 1
        · cases t with
          | nil => simp only [Tr.set, i0, i1, j0, j1, if_true, if_false]; rw [Tr.set_swap o p n m .nil (i / 2) (j / 2) (by omega) (by omega) (by omega)]
          | node q l r => simp only [Tr.set, i0, i1, j0, j1, if_true, if_false]; rw [Tr.set_swap o p n m l (i / 2) (j / 2) (by omega) (by omega) (by omega)]
        · cases t <;> simp [Tr.set, i0, i1, j0, j1]
        · cases t <;> simp [Tr.set, i0, i1, j0, j1]
        · cases t with
          | nil => simp only [Tr.set, i0, i1, j0, j1, if_false]; rw [Tr.set_swap o p n m .nil (i / 2 - 1) (j / 2 - 1) (by omega) (by omega) (by omega)]
          | node q l r => simp only [Tr.set, i0, i1, j0, j1, if_false]; rw [Tr.set_swap o p n m r (i / 2 - 1) (j / 2 - 1) (by omega) (by omega) (by omega)]
theorem Env.set_swap (E : Env) {i j : Nat} (d e : D) (h : i ≠ j) : (E.set i d).set j e = (E.set j e).set i d := by
  simp only [Env.set, Env.mk.injEq, and_true]
  exact Tr.set_swap _ _ _ _ _ _ _ (by omega) (by omega) h

/-- 0: its value hangs on its operands alone; 1: it reads; 2: it may do anything. -/
def kindOf (P : Program) (o : Oper) : Nat :=
  match o.op with
  | .move _ | .assign _ | .pick .. | .binOp .. | .unOp .. | .index .. | .indexAddr .. | .slice .. | .field .. | .fieldAddr .. | .extract .. | .makeInterface .. | .makeFunc .. | .nilCheck _ | .build .. | .typeAssert .. => 0
  | .call { callee := .builtin .min, .. } | .call { callee := .builtin .max, .. } => 0
  | .call { callee := .builtin .len, argTypes := ts, .. } => match ts.toList with
    | [t] => match P.underlying t with
      | some (.map _ _) => 1
      | _ => 0
    | _ => 0
  | .convert s d _ => match P.underlying s, P.underlying d with
    | some _, some (.int _) => 0
    | some (.slice _), some .string => 1
    | some _, some .string => 0
    | _, _ => 2
  | .call { callee := .builtin .unsafeSliceData, .. } => 1
  | .load .. | .lookup .. => 1
  | _ => 2

theorem map_same {ρ ρ' : Operand → D} {xs : Array Operand} (h : ∀ x ∈ xs, ρ' x = ρ x) : xs.toList.map ρ' = xs.toList.map ρ := List.map_congr_left fun x hx => h x (by simpa using hx)
theorem parts_same {ρ ρ' : Operand → D} {ps : Array (Nat × Operand)} (he : ∀ x ∈ (ps.toList.map (·.2)).toArray, ρ' x = ρ x) : (ps.toList.map fun p => (p.1, ρ' p.2)) = ps.toList.map fun p => (p.1, ρ p.2) :=
  List.map_congr_left fun p hp => by rw [he p.2 (by simp only [List.mem_toArray, List.mem_map]; exact ⟨p, hp, rfl⟩)]
theorem omap_same {ρ ρ' : Operand → D} {x : Option Operand} (h : ∀ y, x = some y → ρ' y = ρ y) : x.map ρ' = x.map ρ := by
  cases x with
  | none => rfl
  | some y => simp [h y rfl]

theorem eOp_congr {P : Program} {op : Op} {ρ ρ' : Operand → D} {H : Heap} (he : ∀ x ∈ op.operands, ρ' x = ρ x) : eOp P op ρ' H = eOp P op ρ H := by
  cases op <;> simp only [eOp]
  case slice t x lo hi mx =>
    cases mx with
    | none => simp only; rw [he x (by simp [Op.operands]), omap_same (x := lo) (fun y hy => he y (by subst hy; simp [Op.operands])), omap_same (x := hi) (fun y hy => he y (by subst hy; simp [Op.operands]))]
    | some m => simp only; rw [he x (by simp [Op.operands]), he m (by simp [Op.operands]), omap_same (x := lo) (fun y hy => he y (by subst hy; simp [Op.operands])), omap_same (x := hi) (fun y hy => he y (by subst hy; simp [Op.operands]))]
  case makeFunc fn first cap => rw [map_same (xs := first) (fun x hx => he x (by simp [Op.operands, hx])), map_same (xs := cap) (fun x hx => he x (by simp [Op.operands, hx]))]
  case build t ps => rw [parts_same he]
  case buildSlice t n ps => rw [parts_same he]
  case makeMap t r => cases r <;> rfl
  case call c =>
    obtain ⟨callee, args, ts⟩ := c
    cases callee <;> simp only
    rw [map_same (xs := args) (fun x hx => he x (by simp [Op.operands, Call.operands, hx]))]
  all_goals
    simp only [Op.operands, List.mem_toArray, List.mem_cons, List.not_mem_nil, or_false, forall_eq_or_imp, forall_eq] at he
    simp only [he]
theorem atH_some {H H' : Heap} {x : Option D} {d : D} (h : atH H x = some (d, H')) : x = some d ∧ H' = H := by
  cases x with
  | none => cases h
  | some y => cases h; exact ⟨rfl, rfl⟩
theorem eToStr_any {l : List D} {d : D} (h : eToStr l = some d) : True := trivial
/-- What a calm operation leaves. -/
theorem eOp_calm {P : Program} {o : Oper} {ρ : Operand → D} {H H' : Heap} {d : D} (hk : kindOf P o < 2) (h : eOp P o.op ρ H = some (d, H')) : H' = H ∧ (kindOf P o = 0 → ∀ H2, eOp P o.op ρ H2 = some (d, H2)) := by
  obtain ⟨dst, op, ty, pos, after, gd⟩ := o
  simp only at h
  cases op <;> simp only [kindOf] at hk ⊢ <;> simp only [eOp] at h ⊢
  case move => cases h; exact ⟨rfl, fun _ _ => rfl⟩
  case assign => cases h; exact ⟨rfl, fun _ _ => rfl⟩
  case makeFunc => cases h; exact ⟨rfl, fun _ _ => rfl⟩
  case binOp op t x y u =>
    split at h
    · cases h
    · rename_i hc
      obtain ⟨h1, h2⟩ := atH_some h
      exact ⟨h2, fun _ H2 => by rw [if_neg hc, h1]; rfl⟩
  case slice t x lo hi mx =>
    cases mx <;> (obtain ⟨h1, h2⟩ := atH_some h; exact ⟨h2, fun _ H2 => by simp only [h1]; rfl⟩)
  case load t x => obtain ⟨h1, h2⟩ := atH_some h; exact ⟨h2, fun h => absurd h (by omega)⟩
  case lookup t m k ok => obtain ⟨h1, h2⟩ := atH_some h; exact ⟨h2, fun h => absurd h (by omega)⟩
  case convert s d' x =>
    unfold eConvert at h
    split at h
    · rename_i hs hd; cases h; exact ⟨rfl, fun _ H2 => by simp [eConvert, hs, hd, *]⟩
    · rename_i hs hd; cases h; exact ⟨rfl, fun _ H2 => by simp [eConvert, hs, hd, *]⟩
    · rename_i hs hd; cases h; exact ⟨rfl, fun _ H2 => by simp [eConvert, hs, hd, *]⟩
    · have hs := ‹P.underlying s = some (TypeDesc.slice _)›
      have hd := ‹P.underlying d' = some TypeDesc.string›
      refine ⟨?_, fun hz => by simp [hs, hd] at hz⟩
      split at h
      · split at h
        · split at h
          · cases h; rfl
          · cases h
        · cases h
      · cases h
    · have hs := ‹P.underlying s = some (TypeDesc.slice _)›
      have hd := ‹P.underlying d' = some TypeDesc.string›
      refine ⟨?_, fun hz => by simp [hs, hd] at hz⟩
      split at h
      · split at h
        · split at h
          · cases h; rfl
          · cases h
        · cases h
      · cases h
    · rename_i hs hd
      exfalso
      revert hk
      simp only [hs, hd]
      split <;> simp_all
    · exfalso
      revert hk
      have hs := ‹P.underlying s = some (TypeDesc.slice _)›
      have hd := ‹P.underlying d' = some (TypeDesc.slice _)›
      simp only [hs, hd]
      exact fun h => absurd h (by decide)
    · exfalso
      revert hk
      have hs := ‹P.underlying s = some (TypeDesc.pointer _)›
      have hd := ‹P.underlying d' = some TypeDesc.unsafePointer›
      simp only [hs, hd]
      exact fun h => absurd h (by decide)
    · exfalso
      revert hk
      have hs := ‹P.underlying s = some TypeDesc.unsafePointer›
      have hd := ‹P.underlying d' = some (TypeDesc.pointer _)›
      simp only [hs, hd]
      exact fun h => absurd h (by decide)
    · cases h
  case call c =>
    obtain ⟨callee, args, ts⟩ := c
    cases callee with
    | value f => simp at hk
    | invoke r m => simp at hk
    | builtin b =>
      simp only at h ⊢
      cases b <;> simp only at hk ⊢ <;> first | (exact absurd hk (by decide)) | skip
      case len =>
        unfold eBuiltin at h
        split at h <;> first | (cases h; done) | skip
        · rename_i x t _ e1 e2
          obtain ⟨h1, h2⟩ := atH_some h
          refine ⟨h2, fun hz H2 => ?_⟩
          simp only [e2] at hz
          have hn : ∀ a b, P.underlying t ≠ some (.map a b) := by
            intro a b e; rw [e] at hz; simp at hz
          have : eLen P t x H2 = eLen P t x H := by
            unfold eLen
            split <;> first | rfl | (exact absurd ‹_› (hn _ _))
          simp only [eBuiltin, e1, e2, this, h1]; rfl
        all_goals contradiction
      case unsafeSliceData =>
        unfold eBuiltin at h
        split at h <;> first | (cases h; done) | contradiction | skip
        obtain ⟨h1, h2⟩ := atH_some h
        exact ⟨h2, fun h => absurd h (by omega)⟩
      case min =>
        unfold eBuiltin at h
        split at h <;> first | (cases h; done) | contradiction | skip
        obtain ⟨h1, h2⟩ := atH_some h
        exact ⟨h2, fun _ H2 => by simp only [eBuiltin, h1]; rfl⟩
      case max =>
        unfold eBuiltin at h
        split at h <;> first | (cases h; done) | contradiction | skip
        obtain ⟨h1, h2⟩ := atH_some h
        exact ⟨h2, fun _ H2 => by simp only [eBuiltin, h1]; rfl⟩
  all_goals first
    | (exact absurd hk (by omega))
    | (obtain ⟨h1, h2⟩ := atH_some h; exact ⟨h2, fun _ H2 => by rw [h1]; rfl⟩)
theorem kind_noCall {P : Program} {o : Oper} (h : kindOf P o < 2) : isCall o.op = none ∧ ∀ c, o.op ≠ .defer c := by
  obtain ⟨dst, op, ty, pos, after, gd⟩ := o
  cases op
  case call c =>
    obtain ⟨callee, args, ts⟩ := c
    cases callee with
    | value f => simp [kindOf] at h
    | invoke r m => simp [kindOf] at h
    | builtin b => exact ⟨rfl, fun c e => by cases e⟩
  case defer c => simp [kindOf] at h
  all_goals exact ⟨rfl, fun c e => by cases e⟩

theorem eStep_congr {P : Program} {o : Oper} {st st' : PSt} (he : ∀ x ∈ o.op.operands, st'.ev x = st.ev x) (hH : st'.H = st.H) : eOp P o.op st'.ev st'.H = eOp P o.op st.ev st.H := by rw [hH]; exact eOp_congr he
theorem next_same (st : PSt) (dst : Option Tmp) (d : D) : st.next dst d st.H = st.put dst d := by cases dst <;> rfl
/-- At these operands, o's value is d. -/
theorem calm_of {P : Program} {o : Oper} {st : PSt} {K : PSt → Prop} (ho : kindOf P o < 2) (h : popS P o st K) : ∃ d, K (st.put o.dst d) ∧
    ∀ (st' : PSt) (K' : PSt → Prop), (∀ x ∈ o.op.operands, st'.ev x = st.ev x) → (kindOf P o = 0 ∨ st'.H = st.H) → (K' (st'.put o.dst d) ↔ popS P o st' K') := by
  obtain ⟨hc, hd⟩ := kind_noCall ho
  have hs : ∀ s : PSt, eStep P o s = match eOp P o.op s.ev s.H with | some (d, H') => some (s.next o.dst d H') | none => none := by
    intro s
    unfold eStep
    split
    · rename_i c e; exact absurd e (hd c)
    · rfl
  have hp : ∀ (s : PSt) (K : PSt → Prop), popS P o s K = match eOp P o.op s.ev s.H with | some (d, H') => K (s.next o.dst d H') | none => False := by
    intro s K
    unfold popS
    rw [hc, hs]
    cases eOp P o.op s.ev s.H <;> rfl
  rw [hp] at h
  split at h
  case h_2 => exact h.elim
  rename_i d H' he
  obtain ⟨rfl, h0⟩ := eOp_calm ho he
  refine ⟨d, by rwa [next_same] at h, fun st' K' hx hH => ?_⟩
  have : eOp P o.op st'.ev st'.H = some (d, st'.H) := by
    rw [eOp_congr hx]
    rcases hH with hz | hz
    · exact h0 hz st'.H
    · rw [hz]; exact he
  rw [hp, this]
  simp only [next_same]

theorem ev_put {st : PSt} {dst : Option Tmp} {d : D} {x : Operand} (h : ∀ t, dst = some t → x ≠ .tmp t) : (st.put dst d).ev x = st.ev x := by
  cases dst with
  | none => rfl
  | some t =>
    cases x with
    | tmp u =>
      have hne : u ≠ t := fun e => h t rfl (e ▸ rfl)
      simp [PSt.ev, PSt.put, Env.get_set, hne]
    | _ => rfl
theorem put_swap (st : PSt) {x y : Option Tmp} (d e : D) (h : ∀ t, x = some t → y ≠ some t) : (st.put x d).put y e = (st.put y e).put x d := by
  cases x with
  | none => cases y <;> rfl
  | some t =>
    cases y with
    | none => rfl
    | some u =>
      have hne : t ≠ u := fun e => h t rfl (e ▸ rfl)
      simp only [PSt.put, PSt.mk.injEq, and_true]
      exact Env.set_swap _ _ _ hne
theorem looks_op {ops : Array Oper} {o : Oper} {x : Operand} {t : Tmp} (h : t ∉ o.looksAt ops) (hx : x ∈ o.op.operands) : x ≠ .tmp t := by
  rintro rfl
  apply h
  simp only [Oper.looksAt, List.mem_append, List.mem_filterMap]
  exact .inl ⟨.tmp t, by simpa using hx, rfl⟩
theorem looks_guard {ops : Array Oper} {o : Oper} {t : Tmp} {j : Nat} {b : Bool} (h : t ∉ o.looksAt ops) (hg : o.guard = some (j, b)) : (ops[j]?).bind (·.dst) ≠ some t := by
  intro e
  apply h
  simp only [Oper.looksAt, hg, e, List.mem_append]
  exact .inr (by simp)
theorem guardD_put {ops : Array Oper} {st : PSt} {dst : Option Tmp} {d : D} {j : Nat} (h : ∀ t, dst = some t → (ops[j]?).bind (·.dst) ≠ some t) : guardD ops (st.put dst d) j = guardD ops st j := by
  unfold guardD
  cases hb : (ops[j]?).bind (·.dst) with
  | none => rfl
  | some u =>
    have hne : ∀ t, dst = some t → u ≠ t := fun t ht e => h t ht (by rw [hb, e])
    cases dst with
    | none => rfl
    | some t => simp only [PSt.put, Env.get_set, if_neg (hne t rfl)]
theorem popS_mono {P : Program} {o : Oper} {K K' : PSt → Prop} {st : PSt} (hk : ∀ st, K st → K' st) (h : popS P o st K) : popS P o st K' := by
  unfold popS at *
  split at h
  · split at h
    · exact PCalls.mono h fun _ _ q => hk _ q
    · exact h
  · split at h
    · exact hk _ h
    · exact h

/-- One operation, guard and all. -/
def pone (P : Program) (ops : Array Oper) (o : Oper) (K : PSt → Prop) (st : PSt) : Prop := pops P ops [o] K st
theorem pone_mono {P : Program} {ops : Array Oper} {o : Oper} {K K' : PSt → Prop} {st : PSt} (hk : ∀ st, K st → K' st) (h : pone P ops o K st) : pone P ops o K' st := by
  unfold pone at *
  simp only [pops] at *
  split at h
  · exact popS_mono hk h
  · split at h
    · split at h
      · rename_i e; rw [if_pos e]; exact popS_mono hk h
      · rename_i e; rw [if_neg e]; exact hk _ h
    · exact hk _ h
    · exact h
/-- A state that another one leads to by one operation. -/
def Led (P : Program) (o : Oper) (st st' : PSt) : Prop := (∀ x : Operand, (∀ t, o.dst = some t → x ≠ .tmp t) → st'.ev x = st.ev x) ∧ (kindOf P o < 2 → st'.H = st.H)
theorem led_put {P : Program} {o : Oper} (st : PSt) (d : D) : Led P o st (st.put o.dst d) := ⟨fun x h => ev_put h, fun _ => put_H _ _ _⟩
theorem led_next {P : Program} {o : Oper} (hk : ¬ kindOf P o < 2) (st : PSt) (d : D) (H' : Heap) : Led P o st (st.next o.dst d H') :=
  ⟨fun x h => by have := ev_put (st := st) (d := d) h; rw [← this]; cases x <;> rfl, fun h => absurd h hk⟩
theorem popS_mono' {P : Program} {o : Oper} {K K' : PSt → Prop} {st : PSt} (hk : ∀ st', Led P o st st' → K st' → K' st') (h : popS P o st K) : popS P o st K' := by
  by_cases ho : kindOf P o < 2
  · obtain ⟨d, h1, h2⟩ := calm_of ho h
    exact (h2 st K' (fun _ _ => rfl) (.inr rfl)).1 (hk _ (led_put st d) h1)
  · unfold popS at *
    split at h
    · split at h
      · exact PCalls.mono h fun d H' q => hk _ (led_next ho st d H') q
      · exact h
    · rename_i hc
      split at h
      · rename_i st' hst
        refine hk _ ?_ h
        unfold eStep at hst
        split at hst
        · split at hst
          · split at hst
            · cases hst
              refine ⟨fun x hx => ?_, fun h => absurd h ho⟩
              have := ev_put (st := st) (d := .val undef) hx
              rw [← this]; cases x <;> rfl
            · cases hst
          · cases hst
        · split at hst
          · cases hst
            exact led_next ho st _ _
          · cases hst
      · exact h
theorem pone_mono' {P : Program} {ops : Array Oper} {o : Oper} {K K' : PSt → Prop} {st : PSt} (hk : ∀ st', Led P o st st' → K st' → K' st') (h : pone P ops o K st) : pone P ops o K' st := by
  unfold pone at *
  simp only [pops] at *
  split at h
  · exact popS_mono' hk h
  · split at h
    · split at h
      · rename_i e; rw [if_pos e]; exact popS_mono' hk h
      · rename_i e; rw [if_neg e]; exact hk _ (led_put st _) h
    · exact hk _ (led_put st _) h
    · exact h

/-- o's value is d, whenever it is done. -/
def Sure (P : Program) (ops : Array Oper) (o : Oper) (st : PSt) (d : D) : Prop :=
  ∀ (st' : PSt) (K' : PSt → Prop), (∀ x ∈ o.op.operands, st'.ev x = st.ev x) → (∀ j b, o.guard = some (j, b) → guardD ops st' j = guardD ops st j) → (kindOf P o = 0 ∨ st'.H = st.H) →
    (K' (PSt.put st' o.dst d) ↔ pone P ops o K' st')
/-- What an operation of the calm kinds does, whenever it is done. -/
theorem calm_one {P : Program} {ops : Array Oper} {o : Oper} {K : PSt → Prop} {st : PSt} (ho : kindOf P o < 2) (h : pone P ops o K st) : ∃ d, K (PSt.put st o.dst d) ∧ Sure P ops o st d := by
  unfold Sure pone at *
  simp only [pops] at *
  split at h
  · rename_i hg
    obtain ⟨d, h1, h2⟩ := calm_of ho h
    exact ⟨d, h1, fun st' K' he _ hH => h2 st' K' he hH⟩
  · rename_i j b hg
    split at h
    · rename_i t ht
      split at h
      · rename_i e
        obtain ⟨d, h1, h2⟩ := calm_of ho h
        refine ⟨d, h1, fun st' K' he hgd hH => ?_⟩
        rw [hgd j b hg, ht]
        simp only [e, if_true]
        exact h2 st' K' he hH
      · rename_i e
        refine ⟨.val undef, h, fun st' K' he hgd hH => ?_⟩
        rw [hgd j b hg, ht]
        simp only [e, if_false]
    · rename_i ht
      refine ⟨.val undef, h, fun st' K' he hgd hH => ?_⟩
      rw [hgd j b hg, ht]
    · exact h.elim

theorem callOf_congr {P : Program} {ρ ρ' : Operand → D} {c : Call} (h : ∀ x ∈ c.operands, ρ' x = ρ x) : callOf P ρ' c = callOf P ρ c := by
  obtain ⟨callee, args, ts⟩ := c
  have ha := map_same (ρ := ρ) (ρ' := ρ') (xs := args) (fun x hx => h x (by simp [Call.operands, hx]))
  cases callee with
  | value f => simp only [callOf, callVal]; rw [h f (by simp [Call.operands]), ha]
  | invoke r m => simp only [callOf]; rw [h r (by simp [Call.operands]), ha]
  | builtin b => rfl
/-- An operation of any kind, in a state that differs in a slot that it doesn't look at. -/
theorem pone_frame {P : Program} {ops : Array Oper} {o : Oper} {K : PSt → Prop} {st : PSt} {dst : Option Tmp} {d : D} (hl : ∀ t, dst = some t → t ∉ o.looksAt ops)
    (hd : ∀ t, dst = some t → o.dst ≠ some t) : pone P ops o K (st.put dst d) ↔ pone P ops o (fun st' => K (PSt.put st' dst d)) st := by
  have hev : ∀ x ∈ o.op.operands, (st.put dst d).ev x = st.ev x := fun x hx => ev_put fun t ht => looks_op (hl t ht) hx
  have hnx : ∀ d' H', (st.put dst d).next o.dst d' H' = (st.next o.dst d' H').put dst d := fun d' H' => by
    have := put_swap st d d' hd
    unfold PSt.next
    rw [this]
    cases dst <;> rfl
  have hskip : (st.put dst d).put o.dst (.val undef) = (st.put o.dst (.val undef)).put dst d := put_swap st d _ hd
  have hpop : ∀ K2 : PSt → Prop, popS P o (st.put dst d) K2 ↔ popS P o st (fun st' => K2 (st'.put dst d)) := by
    intro K2
    unfold popS
    split
    · rename_i c hc
      have ho : o.op = .call c := by
        unfold isCall at hc
        split at hc
        · rename_i c' e
          split at hc
          · cases hc
          · cases hc; exact e
        · cases hc
      have := callOf_congr (P := P) (c := c) (ρ := st.ev) (ρ' := (st.put dst d).ev) (fun x hx => hev x (by rw [ho]; exact hx))
      rw [this]
      split
      · rw [put_H]; simp only [hnx]
      · exact Iff.rfl
    · have hst : eStep P o (st.put dst d) = (eStep P o st).map fun s => s.put dst d := by
        unfold eStep
        split
        · rename_i c ho
          split
          · rename_i f hf
            have : callVal (st.put dst d).ev c f = callVal st.ev c f := by
              have := callOf_congr (P := P) (c := c) (ρ := st.ev) (ρ' := (st.put dst d).ev) (fun x hx => hev x (by rw [ho]; exact hx))
              simpa [callOf, hf] using this
            rw [this, hskip]
            cases callVal st.ev c f with
            | none => rfl
            | some p => simp only [Option.map_some, put_df]; cases dst <;> rfl
          · rfl
        · rw [eStep_congr hev (put_H _ _ _)]
          cases eOp P o.op st.ev st.H with
          | none => rfl
          | some q => simp only [Option.map_some, hnx]
      rw [hst]
      cases eStep P o st <;> exact Iff.rfl
  unfold pone
  simp only [pops]
  cases hg : o.guard with
  | none => exact hpop K
  | some jb =>
    obtain ⟨j, b⟩ := jb
    simp only
    rw [guardD_put (fun t ht => looks_guard (hl t ht) hg)]
    cases guardD ops st j with
    | none => exact Iff.rfl
    | some r =>
      cases r with
      | none => simp only [hskip]
      | some t =>
        simp only [hskip]
        split
        · exact hpop K
        · exact Iff.rfl

/-- Operations by their numbers. -/
def plist (P : Program) (ops : Array Oper) (K : PSt → Prop) : List Nat → PSt → Prop
  | [], st => K st
  | i :: rest, st => match ops[i]? with
    | none => plist P ops K rest st
    | some o => pone P ops o (plist P ops K rest) st
theorem plist_some {P : Program} {ops : Array Oper} {K : PSt → Prop} {i : Nat} {rest : List Nat} {o : Oper} (ho : ops[i]? = some o) (st : PSt) : plist P ops K (i :: rest) st ↔ pone P ops o (plist P ops K rest) st := by
  simp [plist, ho]

/-- States that o can't tell apart. -/
def Agree (P : Program) (ops : Array Oper) (o : Oper) (st st' : PSt) : Prop :=
  (∀ x ∈ o.op.operands, st'.ev x = st.ev x) ∧ (∀ j b, o.guard = some (j, b) → guardD ops st' j = guardD ops st j) ∧ (kindOf P o = 0 ∨ st'.H = st.H)
theorem Sure.agree {P : Program} {ops : Array Oper} {o : Oper} {st st' : PSt} {d : D} (h : Sure P ops o st d) (ha : Agree P ops o st st') : Sure P ops o st' d := fun s K h1 h2 h3 =>
  h s K (fun x hx => (h1 x hx).trans (ha.1 x hx)) (fun j b hg => (h2 j b hg).trans (ha.2.1 j b hg)) (h3.elim .inl fun e => ha.2.2.elim .inl fun e' => .inr (e.trans e'))
theorem Sure.back {P : Program} {ops : Array Oper} {o : Oper} {st st' : PSt} {d : D} (h : Sure P ops o st' d) (ha : Agree P ops o st st') : Sure P ops o st d :=
  h.agree ⟨fun x hx => (ha.1 x hx).symm, fun j b hg => (ha.2.1 j b hg).symm, ha.2.2.imp id Eq.symm⟩
/-- What another operation leaves can't be told apart by o. -/
theorem agree_led {P : Program} {ops : Array Oper} {o p : Oper} {st st' : PSt} (hap : ∀ t, p.dst = some t → t ∉ o.looksAt ops) (hl : Led P p st st') (hH : kindOf P o = 0 ∨ kindOf P p < 2) : Agree P ops o st st' := by
  refine ⟨fun x hx => hl.1 x fun t ht => looks_op (hap t ht) hx, fun j b hg => ?_, hH.imp id hl.2⟩
  have hne : ∀ t, p.dst = some t → (ops[j]?).bind (·.dst) ≠ some t := fun t ht => looks_guard (hap t ht) hg
  unfold guardD
  cases hb : (ops[j]?).bind (·.dst) with
  | none => rfl
  | some u =>
    have := hl.1 (.tmp u) (fun t ht e => hne t ht (by cases e; exact hb))
    simp only [PSt.ev] at this
    simp only [this]

theorem wp_const {P : Program} {o : Oper} {a : Act} {w : World} {C : Prop} (h : o.wp P a w (fun _ _ => C) (fun _ _ _ => False)) : C := by
  unfold Oper.wp at h
  generalize (execOp a.eval o).run P w = r at h
  cases r with
  | ok x w' =>
    cases x <;> simp only [Oper.upon] at h
    case value v => exact h
    case skip => exact h
    case defer d => exact h
    case enter f args =>
      obtain ⟨e, w'', fr, hr, _⟩ := h []
      cases e with
      | returned v => exact hr
      | panicked c => exact hr.elim
      | outgrown => obtain ⟨_, _, hf⟩ := hr; exact hf.elim
    case row r args =>
      obtain ⟨v, w'', hr, _⟩ := h default []
      exact hr
  | halt x w' => cases x <;> simp only [Oper.upon] at h

/-- What must hold of i and of one ahead of it that needn't be. -/
def free (P : Program) (ops : Array Oper) (oi oj : Oper) : Bool := oi.apart ops oj && oj.apart ops oi && (kindOf P oi == 0 || kindOf P oj == 0 || (kindOf P oi == 1 && kindOf P oj == 1))
theorem free_spec {P : Program} {ops : Array Oper} {oi oj : Oper} (h : free P ops oi oj = true) : (∀ t, oj.dst = some t → t ∉ oi.looksAt ops) ∧ (∀ t, oi.dst = some t → t ∉ oj.looksAt ops) ∧ (∀ t, oi.dst = some t → oj.dst ≠ some t) ∧
    (kindOf P oi = 0 ∨ kindOf P oj = 0 ∨ kindOf P oi = 1 ∧ kindOf P oj = 1) := by
  simp only [free, Bool.and_eq_true, Bool.or_eq_true, beq_iff_eq] at h
  obtain ⟨⟨h1, h2⟩, h3⟩ := h
  obtain ⟨a1, a2, a3⟩ := Oper.apart_spec h1
  exact ⟨a3, a1, a2, by omega⟩

section
variable {P : Program} {ops : Array Oper} {base : Prot} {w0 : World} {n : Nat}

theorem extract {oi : Oper} {i : Nat} (hi : ops[i]? = some oi) (hk : kindOf P oi < 2) {K : PSt → Prop} {post : List Nat} : ∀ (pre : List Nat), (∀ j ∈ pre, ∃ oj, ops[j]? = some oj ∧ free P ops oi oj = true) →
    ∀ {st : PSt} {Γ : Gh} {w : World} {a : Act}, Rel P base w0 Γ st.H w → StRep P Γ st a → plist P ops K (pre ++ i :: post) st → ∃ d, Sure P ops oi st d
  | [], _, st, _, _, _, _, _, h => by
    obtain ⟨d, _, h2⟩ := calm_one hk ((plist_some hi st).1 h)
    exact ⟨d, h2⟩
  | j :: pre, hp, st, Γ, w, a, hR, hE, h => by
    obtain ⟨oj, hj, hfr⟩ := hp j (by simp)
    obtain ⟨f1, f2, f3, f4⟩ := free_spec hfr
    have h' : pone P ops oj (plist P ops K (pre ++ i :: post)) st := (plist_some hj st).1 h
    have h2 : pone P ops oj (fun st' => Agree P ops oi st st' ∧ plist P ops K (pre ++ i :: post) st') st :=
      pone_mono' (fun st' hl q => ⟨agree_led f1 hl (by omega), q⟩) h'
    have hs := step_sound (next := fun _ _ => ∃ d, Sure P ops oi st d) (Q' := fun _ _ _ => False) hR hE h2 (fun st' Γ' w' a' hle hR' hE' hs' hk' => by
      obtain ⟨d, hd⟩ := extract hi hk pre (fun j hj => hp j (by simp [hj])) hR' hE' hk'.2
      exact ⟨d, hd.back hk'.1⟩)
    split at hs
    · exact wp_const hs
    · exact hs

theorem push {oi : Oper} {i : Nat} (hi : ops[i]? = some oi) (hk : kindOf P oi < 2) {K : PSt → Prop} {post : List Nat} {d : D} : ∀ (pre : List Nat), (∀ j ∈ pre, ∃ oj, ops[j]? = some oj ∧ free P ops oi oj = true) →
    ∀ {st : PSt}, Sure P ops oi st d → plist P ops K (pre ++ i :: post) st → plist P ops K (pre ++ post) (PSt.put st oi.dst d)
  | [], _, st, hs, h => (hs st _ (fun _ _ => rfl) (fun _ _ _ => rfl) (.inr rfl)).2 ((plist_some hi st).1 h)
  | j :: pre, hp, st, hs, h => by
    obtain ⟨oj, hj, hfr⟩ := hp j (by simp)
    obtain ⟨f1, f2, f3, f4⟩ := free_spec hfr
    have h' : pone P ops oj (plist P ops K (pre ++ i :: post)) st := (plist_some hj st).1 h
    refine (plist_some hj _).2 ((pone_frame f2 f3).2 ?_)
    exact pone_mono' (fun st' hl q => push hi hk pre (fun j hj => hp j (by simp [hj])) (hs.agree (agree_led f1 hl (by omega))) q) h'

theorem front {oi : Oper} {i : Nat} (hi : ops[i]? = some oi) (hk : ¬ kindOf P oi < 2) {K : PSt → Prop} {post : List Nat} : ∀ (pre : List Nat), (∀ j ∈ pre, ∃ oj, ops[j]? = some oj ∧ free P ops oi oj = true) →
    ∀ {st : PSt}, plist P ops K (pre ++ i :: post) st → pone P ops oi (plist P ops K (pre ++ post)) st
  | [], _, st, h => (plist_some hi st).1 h
  | j :: pre, hp, st, h => by
    obtain ⟨oj, hj, hfr⟩ := hp j (by simp)
    obtain ⟨f1, f2, f3, f4⟩ := free_spec hfr
    have kj : kindOf P oj = 0 := by omega
    obtain ⟨d, h1, h2⟩ := calm_one (by omega) ((plist_some hj st).1 h)
    have h3 := front hi hk pre (fun j hj => hp j (by simp [hj])) h1
    have h4 := (pone_frame (o := oi) f1 (fun t ht e => f3 t e ht)).1 h3
    refine pone_mono' (fun st' hl q => ?_) h4
    have ha : Agree P ops oj st st' := agree_led f2 hl (.inl kj)
    exact (plist_some hj _).2 ((h2 _ _ ha.1 ha.2.1 ha.2.2).1 q)

/-- Whatever needn't come one behind the other can be done in any order. -/
def drawOk (P : Program) (ops : List Oper) : Bool :=
  ops.zipIdx.all fun (oi, i) => oi.after.all (fun e => decide (e.on < i)) && (ops.take i).zipIdx.all fun (oj, j) => oi.after.any (fun e => Region.binds .any e && e.on == j) || free P ops.toArray oi oj
theorem drawOk_spec {l : List Oper} (h : drawOk P l = true) {i : Nat} {oi : Oper} (hi : l[i]? = some oi) :
    (∀ e ∈ oi.after, e.on < i) ∧ ∀ (j : Nat) oj, j < i → l[j]? = some oj → (∃ e ∈ oi.after, Region.binds .any e = true ∧ e.on = j) ∨ free P l.toArray oi oj = true := by
  have hm : (oi, i) ∈ l.zipIdx := by
    rw [List.mem_zipIdx_iff_getElem?]; exact hi
  have := List.all_eq_true.1 h _ hm
  simp only [Bool.and_eq_true] at this
  refine ⟨fun e he => ?_, fun j oj hj hoj => ?_⟩
  · have := Array.all_eq_true_iff_forall_mem.1 this.1 e he
    simpa using this
  · have hm2 : (oj, j) ∈ (l.take i).zipIdx := by
      rw [List.mem_zipIdx_iff_getElem?, List.getElem?_take, if_pos hj]; exact hoj
    have h2 := List.all_eq_true.1 this.2 _ hm2
    simp only [Bool.or_eq_true] at h2
    rcases h2 with h2 | h2
    · rw [← Array.any_toList, List.any_eq_true] at h2
      obtain ⟨e, he, h3⟩ := h2
      simp only [Bool.and_eq_true, beq_iff_eq] at h3
      exact .inl ⟨e, by simpa using he, h3⟩
    · exact .inr h2

theorem draw_sound {l : List Oper} (hok : drawOk P l = true) {Γ0 : Gh} {Q : Exit → PSt → Prop} : ∀ (fuel : Nat) (listed : Array Bool) (rem : List Nat), listed.size = l.length →
    (∀ i, i ∈ rem ↔ i < l.length ∧ listed.getD i true = false) → rem.Pairwise (· < ·) → rem.length ≤ fuel →
    ∀ {st : PSt} {Γ : Gh} {w : World} {a : Act}, Γ0.le Γ → Rel P base w0 Γ st.H w → StRep P Γ st a → a.tmps.size = n → plist P l.toArray (fun st' => Q .normal st') rem st →
    wpAny P .any l.toArray (Post P base w0 Γ0 n Q) fuel listed a w := by
  intro fuel
  have hready : ∀ (listed : Array Bool) (i : Nat), i ∈ Region.ready .any l.toArray listed ↔ i < l.length ∧ listed.getD i true = false ∧ ∃ oi, l[i]? = some oi ∧ ∀ e ∈ oi.after, Region.binds .any e = true → listed.getD e.on false = true := by
    intro listed i
    simp only [Region.ready, List.mem_filter, List.mem_range, List.size_toArray, Bool.and_eq_true, Bool.not_eq_true']
    constructor
    · rintro ⟨h1, h2, h3⟩
      refine ⟨h1, h2, l[i], List.getElem?_eq_getElem h1, fun e he hb => ?_⟩
      have : (l.toArray[i]?) = some l[i] := by simp [h1]
      rw [this] at h3
      simp only [Option.map_some, Option.getD_some] at h3
      have := Array.all_eq_true_iff_forall_mem.1 h3 e he
      rw [hb] at this
      simpa using this
    · rintro ⟨h1, h2, oi, ho, h3⟩
      refine ⟨h1, h2, ?_⟩
      have : (l.toArray[i]?) = some oi := by simpa using ho
      rw [this]
      simp only [Option.map_some, Option.getD_some]
      refine Array.all_eq_true_iff_forall_mem.2 fun e he => ?_
      cases hb : Region.binds .any e
      · rfl
      · simp [h3 e he hb]
  have hnil : ∀ (listed : Array Bool) (rem : List Nat), listed.size = l.length → (∀ i, i ∈ rem ↔ i < l.length ∧ listed.getD i true = false) → rem.Pairwise (· < ·) → Region.ready .any l.toArray listed = [] → rem = [] := by
    intro listed rem hs hrem hp hr
    cases rem with
    | nil => rfl
    | cons r rest =>
      exfalso
      obtain ⟨r1, r2⟩ := (hrem r).1 (by simp)
      have : r ∈ Region.ready .any l.toArray listed := by
        refine (hready listed r).2 ⟨r1, r2, l[r], List.getElem?_eq_getElem r1, fun e he hb => ?_⟩
        have hlt := (drawOk_spec hok (List.getElem?_eq_getElem r1)).1 e he
        have hnot : e.on ∉ r :: rest := by
          intro hm
          rcases List.mem_cons.1 hm with h | h
          · omega
          · have := List.rel_of_pairwise_cons hp h; omega
        have hne : ¬ (e.on < l.length ∧ listed.getD e.on true = false) := fun q => hnot ((hrem _).2 q)
        have hlt2 : e.on < listed.size := by omega
        have : listed.getD e.on true = true := by
          cases hq : listed.getD e.on true
          · exact absurd ⟨by omega, hq⟩ hne
          · rfl
        simpa [hlt2] using this
      rw [hr] at this
      simp at this
  induction fuel with
  | zero =>
    intro listed rem hs hrem hp hl st Γ w a h0 hR hE hn hK
    have hr : rem = [] := List.eq_nil_of_length_eq_zero (by omega)
    subst hr
    refine ⟨?_, st, Γ, h0, hR, hE, hn, hK⟩
    apply List.eq_nil_iff_forall_not_mem.2
    intro i hi
    obtain ⟨h1, h2, _⟩ := (hready listed i).1 hi
    have := (hrem i).2 ⟨h1, h2⟩
    simp at this
  | succ fuel ih =>
    intro listed rem hs hrem hp hl st Γ w a h0 hR hE hn hK
    refine ⟨fun hr => ?_, fun i hi => ?_⟩
    · obtain rfl := hnil listed rem hs hrem hp hr
      exact ⟨st, Γ, h0, hR, hE, hn, hK⟩
    · obtain ⟨h1, h2, oi, ho, h3⟩ := (hready listed i).1 hi
      have himem : i ∈ rem := (hrem i).2 ⟨h1, h2⟩
      obtain ⟨pre, post, rfl⟩ := List.append_of_mem himem
      have ho' : l.toArray[i]? = some oi := by simpa using ho
      have hpre : ∀ j ∈ pre, ∃ oj, l.toArray[j]? = some oj ∧ free P l.toArray oi oj = true := by
        intro j hj
        have hji : j < i := by
          have := (List.pairwise_append.1 hp).2.2 j hj i (by simp)
          exact this
        have hjr := (hrem j).1 (by simp [hj])
        refine ⟨l[j]'hjr.1, by simp [hjr.1], ?_⟩
        rcases (drawOk_spec hok ho).2 j _ hji (List.getElem?_eq_getElem hjr.1) with ⟨e, he, hb, rfl⟩ | h
        · have h4 := h3 e he hb
          have hlt : e.on < listed.size := by omega
          have h5 : listed.getD e.on true = false := hjr.2
          simp [hlt] at h4 h5
          rw [h4] at h5; cases h5
        · exact h
      have hone : pone P l.toArray oi (plist P l.toArray (fun st' => Q .normal st') (pre ++ post)) st := by
        by_cases hk : kindOf P oi < 2
        · obtain ⟨d, hd'⟩ := extract ho' hk pre hpre hR hE hK
          exact (hd' st _ (fun _ _ => rfl) (fun _ _ _ => rfl) (.inr rfl)).1 (push ho' hk pre hpre hd' hK)
        · exact front ho' hk pre hpre hK
      have hnd : (pre ++ i :: post).Nodup := hp.imp (fun h => Nat.ne_of_lt h)
      have hrem' : ∀ k, k ∈ pre ++ post ↔ k < l.length ∧ (listed.setIfInBounds i true).getD k true = false := by
        intro k
        have h5 := hrem k
        by_cases e : k = i
        · subst e
          have hnot : k ∉ pre ++ post := by
            rw [List.nodup_append] at hnd
            simp only [List.nodup_cons] at hnd
            intro hm
            rcases List.mem_append.1 hm with h | h
            · exact hnd.2.2 k h k (by simp) rfl
            · exact hnd.2.1.1 h
          have hlt : k < listed.size := by omega
          simp [hlt] at hnot ⊢
          exact hnot
        · have e1 : k ∈ pre ++ post ↔ k ∈ pre ++ i :: post := by simp [e]
          have e' : i ≠ k := fun q => e q.symm
          rw [e1, h5]
          simp [Array.getElem?_setIfInBounds_ne e']
      have hp' : (pre ++ post).Pairwise (· < ·) := hp.sublist (List.Sublist.append_left (List.sublist_cons_self i post) pre)
      have hs := step_sound (next := wpAny P .any l.toArray (Post P base w0 Γ0 n Q) fuel (listed.setIfInBounds i true)) (Q' := Post P base w0 Γ0 n Q) hR hE hone
        (fun st' Γ' w' a' hle hR' hE' hs' hk' => ih (listed.setIfInBounds i true) (pre ++ post) (by simpa using hs) hrem' hp' (by simp at hl ⊢; omega) (h0.trans hle) hR' hE' (hs'.trans hn) hk')
      unfold wpOp
      rw [ho']
      simp only
      split
      · rename_i hw; rw [if_pos hw] at hs; exact .inl hs
      · rename_i hw; rw [if_neg hw] at hs; exact hs

theorem plist_range (P : Program) (ops : Array Oper) (K : PSt → Prop) : ∀ (l : List Oper) (k : Nat) (st : PSt), (∀ j, l[j]? = ops[k + j]?) → pops P ops l K st → plist P ops K (List.range' k l.length) st
  | [], k, st, _, h => h
  | o :: l, k, st, he, h => by
    have h0 : ops[k]? = some o := by simpa using (he 0).symm
    rw [List.length_cons, List.range'_succ]
    refine (plist_some h0 st).2 (pone_mono (fun st' q => ?_) (show pone P ops o (pops P ops l K) st from h))
    exact plist_range P ops K l (k + 1) st' (fun j => by have := he (j + 1); simpa [Nat.add_assoc, Nat.add_comm 1 j] using this) q

theorem pwp_region_draw (hm : P.follows .mixedOrders = true) {id : Nat} {l : List Oper} {st : PSt} {Q : Exit → PSt → Prop} (hok : drawOk P l = true) (h : pops P l.toArray l (fun st' => Q .normal st') st) :
    pwp P n (.region id l.toArray true) Q st := by
  intro base w0 Γ w a h1 h2 h3
  refine wp_region_any hm ?_
  have hR : Rel P base w0 Γ st.H { w with drawn := w.drawn + 1 } := h1.drew
  have hsz : l.toArray.size = l.length := by simp
  rw [hsz]
  refine draw_sound hok l.length (Array.replicate l.length false) (List.range' 0 l.length) (by simp) (fun i => ?_) ?_ (by simp) (.refl Γ) hR h2 h3 (plist_range P l.toArray _ l 0 st (by simp) h)
  · by_cases e : i < l.length
    · simp [e]
    · simp [e]
  · exact List.pairwise_lt_range'
end
end Go.Pv
