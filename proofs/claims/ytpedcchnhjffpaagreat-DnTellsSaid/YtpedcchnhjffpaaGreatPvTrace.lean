/- Operations whose order is left open, by their reads. -/
import Derived.Test.YtpedcchnhjffpaaGreatPvCode
namespace Go.Pv
open Go.RowKit

/-! ### What must come behind what -/
inductive Reach (l : List Oper) : Nat → Nat → Prop
  | one {k : Nat} {o : Oper} {e : Edge} (ho : l[k]? = some o) (he : e ∈ o.after) (hb : Region.binds .any e = true) : Reach l e.on k
  | more {i k : Nat} {o : Oper} {e : Edge} (ho : l[k]? = some o) (he : e ∈ o.after) (hb : Region.binds .any e = true) (h : Reach l i e.on) : Reach l i k
def maskOf (o : Oper) (acc : List Nat) : Nat :=
  o.after.toList.foldl (fun s e => if Region.binds .any e then s ||| (2 ^ e.on ||| acc.getD e.on 0) else s) 0
def masks : List Oper → List Nat → List Nat
  | [], acc => acc
  | o :: rest, acc => masks rest (acc ++ [maskOf o acc])
theorem maskOf_spec (acc : List Nat) (i : Nat) : ∀ (es : List Edge) (s : Nat), (es.foldl (fun s e => if Region.binds .any e then s ||| (2 ^ e.on ||| acc.getD e.on 0) else s) s).testBit i = true →
    s.testBit i = true ∨ ∃ e ∈ es, Region.binds .any e = true ∧ (e.on = i ∨ (acc.getD e.on 0).testBit i = true)
  | [], s, h => .inl h
  | e :: es, s, h => by
    rw [List.foldl_cons] at h
    rcases maskOf_spec acc i es _ h with h1 | ⟨e', h1, h2⟩
    · split at h1
      · rename_i hb
        rw [Nat.testBit_or, Nat.testBit_or, Bool.or_eq_true, Bool.or_eq_true] at h1
        rcases h1 with h1 | h1 | h1
        · exact .inl h1
        · refine .inr ⟨e, by simp, hb, .inl ?_⟩
          rw [Nat.testBit_two_pow] at h1
          exact of_decide_eq_true h1
        · exact .inr ⟨e, by simp, hb, .inr h1⟩
      · exact .inl h1
    · exact .inr ⟨e', by simp [h1], h2⟩
theorem masks_spec (l : List Oper) : ∀ (rest : List Oper) (acc : List Nat), (∀ j, rest[j]? = l[acc.length + j]?) → (∀ k i, (acc.getD k 0).testBit i = true → Reach l i k) → ∀ k i, ((masks rest acc).getD k 0).testBit i = true → Reach l i k
  | [], acc, _, h, k, i, hb => h k i hb
  | o :: rest, acc, he, h, k, i, hb => by
    have ho : l[acc.length]? = some o := by simpa using (he 0).symm
    refine masks_spec l rest (acc ++ [maskOf o acc]) (fun j => by have := he (j + 1); simpa [Nat.add_assoc, Nat.add_comm 1 j] using this) (fun k i hb => ?_) k i hb
    rcases Nat.lt_trichotomy k acc.length with hk | hk | hk
    · have : (acc ++ [maskOf o acc]).getD k 0 = acc.getD k 0 := by simp [List.getD, List.getElem?_append_left hk]
      rw [this] at hb
      exact h k i hb
    · subst hk
      have : (acc ++ [maskOf o acc]).getD acc.length 0 = maskOf o acc := by simp [List.getD]
      rw [this] at hb
      rcases maskOf_spec acc i o.after.toList 0 hb with h1 | ⟨e, h1, h2, h3⟩
      · simp at h1
      · have hm : e ∈ o.after := by simpa using h1
        rcases h3 with rfl | h3
        · exact .one ho hm h2
        · exact .more ho hm h2 (h _ _ h3)
    · have : (acc ++ [maskOf o acc]).getD k 0 = 0 := by simp [List.getD, List.getElem?_eq_none (l := acc ++ [maskOf o acc]) (i := k) (by simp; omega)]
      rw [this] at hb
      simp at hb
/-- Of two operations, the second needn't come behind the first: but it makes no difference, as far as that can be told without a run. -/
def apart2 (P : Program) (ops : Array Oper) (oi oj : Oper) : Bool := oi.apart ops oj && oj.apart ops oi && (kindOf P oi < 2 || kindOf P oj < 2)
def traceOk (P : Program) (l : List Oper) (ms : List Nat) : Bool :=
  l.zipIdx.all fun (oi, i) => (l.take i).zipIdx.all fun (oj, j) => (ms.getD i 0).testBit j || apart2 P l.toArray oi oj
theorem traceOk_spec {P : Program} {l : List Oper} {ms : List Nat} (h : traceOk P l ms = true) (hms : ms = masks l []) {i j : Nat} {oi oj : Oper} (hi : l[i]? = some oi) (hj : l[j]? = some oj) (hji : j < i) :
    Reach l j i ∨ ((∀ t, oj.dst = some t → t ∉ oi.looksAt l.toArray) ∧ (∀ t, oi.dst = some t → t ∉ oj.looksAt l.toArray) ∧ (∀ t, oi.dst = some t → oj.dst ≠ some t) ∧ (kindOf P oi < 2 ∨ kindOf P oj < 2)) := by
  have hm : (oi, i) ∈ l.zipIdx := by rw [List.mem_zipIdx_iff_getElem?]; exact hi
  have h1 := List.all_eq_true.1 h _ hm
  simp only at h1
  have hm2 : (oj, j) ∈ (l.take i).zipIdx := by rw [List.mem_zipIdx_iff_getElem?, List.getElem?_take, if_pos hji]; exact hj
  have h2 := List.all_eq_true.1 h1 _ hm2
  simp only [Bool.or_eq_true] at h2
  rcases h2 with h2 | h2
  · subst hms
    exact .inl (masks_spec l l [] (fun j => by simp) (fun k i hb => by simp at hb) i j h2)
  · right
    simp only [apart2, Bool.and_eq_true, Bool.or_eq_true, decide_eq_true_eq] at h2
    obtain ⟨⟨h3, _⟩, h4⟩ := h2
    obtain ⟨a1, a2, a3⟩ := Oper.apart_spec h3
    exact ⟨a3, a1, a2, h4⟩

/-! ### A run in the text's order stands for all -/
/-- One step of the text's run. -/
def StepsTo (P : Program) (ops : Array Oper) (o : Oper) (st st' : PSt) : Prop := pops P ops [o] (fun s => s = st') st
/-- The text's run, and that what was read stands wherever it may be read. -/
structure Trace (P : Program) (l : List Oper) (s : Nat → PSt) : Prop where
  back : ∀ (k : Nat) o, l[k]? = some o → ∀ e ∈ o.after, Region.binds .any e = true → e.on < k
  led : ∀ (k : Nat) o, l[k]? = some o → (∀ t, o.dst ≠ some t → (s (k + 1)).env.get t = (s k).env.get t) ∧ (s (k + 1)).env.n = (s k).env.n ∧ (kindOf P o < 2 → (s (k + 1)).H = (s k).H ∧ (s (k + 1)).df = (s k).df)
  step : ∀ (k : Nat) o, l[k]? = some o → StepsTo P l.toArray o (s k) (s (k + 1))
  order : ∀ (i j : Nat) oi oj, l[i]? = some oi → l[j]? = some oj → j < i → Reach l j i ∨ ((∀ t, oj.dst = some t → t ∉ oi.looksAt l.toArray) ∧ (∀ t, oi.dst = some t → t ∉ oj.looksAt l.toArray) ∧ (∀ t, oi.dst = some t → oj.dst ≠ some t) ∧ (kindOf P oi < 2 ∨ kindOf P oj < 2))
  early : ∀ (i k : Nat) oi ok, l[i]? = some oi → l[k]? = some ok → i < k → ¬ kindOf P oi < 2 → kindOf P ok < 2 → ¬ Reach l i k → StepsTo P l.toArray ok { s k with H := (s i).H } { s (k + 1) with H := (s i).H }
  late : ∀ (i k : Nat) oi ok, l[i]? = some oi → l[k]? = some ok → k < i → ¬ kindOf P oi < 2 → kindOf P ok < 2 → ¬ Reach l k i → StepsTo P l.toArray ok { s k with H := (s (i + 1)).H } { s (k + 1) with H := (s (i + 1)).H }

section
variable {P : Program} {l : List Oper} {s : Nat → PSt}

/-- The state behind a step from another one. -/
structure Behind (o : Oper) (σ y' x : PSt) : Prop where
  H : x.H = y'.H
  df : x.df = y'.df
  n : x.env.n = σ.env.n
  at_ : ∀ t, o.dst = some t → x.env.get t = y'.env.get t
  off : ∀ t, o.dst ≠ some t → x.env.get t = σ.env.get t
theorem behind_next {o : Oper} {σ y : PSt} {d : D} {H' : Heap} (hn : σ.env.n = y.env.n) (hdf : σ.df = y.df) : Behind o σ (y.next o.dst d H') (σ.next o.dst d H') := by
  obtain ⟨dst, op, ty, pos, after, gd⟩ := o
  cases dst with
  | none => exact ⟨rfl, hdf, rfl, fun t h => (by cases h), fun t _ => rfl⟩
  | some u =>
    refine ⟨rfl, hdf, rfl, fun t ht => ?_, fun t ht => ?_⟩
    · cases ht
      simp only [PSt.next, PSt.put, Env.get_set, if_true, hn]
    · have : ¬ t = u := fun e => ht (by rw [e])
      simp only [PSt.next, PSt.put, Env.get_set, if_neg this]
theorem behind_put {o : Oper} {σ y : PSt} {d : D} (hn : σ.env.n = y.env.n) (hH : σ.H = y.H) (hdf : σ.df = y.df) : Behind o σ (y.put o.dst d) (σ.put o.dst d) := by
  have := behind_next (o := o) (d := d) (H' := y.H) hn hdf
  rw [next_same] at this
  rw [← hH, next_same] at this
  exact this
/-- A step, from a state that the operation can't tell from another one. -/
theorem steps_transfer {ops : Array Oper} {o : Oper} {σ y y' : PSt} (hn : σ.env.n = y.env.n) (hev : ∀ x ∈ o.op.operands, σ.ev x = y.ev x) (hgd : ∀ j b, o.guard = some (j, b) → guardD ops σ j = guardD ops y j) (hH : σ.H = y.H) (hdf : σ.df = y.df)
    (h : StepsTo P ops o y y') : pops P ops [o] (Behind o σ y') σ := by
  have skip : y.put o.dst (.val undef) = y' → Behind o σ y' (σ.put o.dst (.val undef)) := fun h => h ▸ behind_put hn hH hdf
  have run : popS P o y (fun x => x = y') → popS P o σ (Behind o σ y') := by
    intro h
    unfold popS at h ⊢
    cases hc : isCall o.op with
    | some c =>
      have ho : o.op = .call c := by
        unfold isCall at hc
        split at hc
        · rename_i c' e
          split at hc
          · cases hc
          · cases hc; exact e
        · cases hc
      simp only [hc] at h ⊢
      rw [callOf_congr (ρ := y.ev) (ρ' := σ.ev) (fun x hx => hev x (by rw [ho]; exact hx)), hH]
      split at h
      · exact PCalls.mono h fun d H' q => q ▸ behind_next hn hdf
      · exact h
    | none =>
      simp only [hc] at h ⊢
      by_cases hdfr : ∃ c, o.op = .defer c
      · obtain ⟨c, ho⟩ := hdfr
        have e1 : ∀ z : PSt, eStep P o z = match c.callee with
          | .value f => match callVal z.ev c f with
            | some p => some { z.put o.dst (.val undef) with df := p :: z.df }
            | none => none
          | _ => none := fun z => by simp only [eStep, ho]; cases c.callee <;> rfl
        rw [e1] at h ⊢
        obtain ⟨callee, args, ts⟩ := c
        cases callee with
        | value f =>
          have : callVal σ.ev ⟨.value f, args, ts⟩ f = callVal y.ev ⟨.value f, args, ts⟩ f := by
            have := callOf_congr (P := P) (c := ⟨.value f, args, ts⟩) (ρ := y.ev) (ρ' := σ.ev) (fun x hx => hev x (by rw [ho]; exact hx))
            simpa [callOf] using this
          simp only [this] at h ⊢
          cases hcv : callVal y.ev ⟨.value f, args, ts⟩ f with
          | none => simp [hcv] at h
          | some p =>
            simp only [hcv] at h ⊢
            have := behind_put (o := o) (σ := σ) (y := y) (d := .val undef) hn hH hdf
            rw [← h]
            exact ⟨this.H, by simp [hdf], this.n, this.at_, this.off⟩
        | _ => exact h.elim
      · have e1 : ∀ z : PSt, eStep P o z = match eOp P o.op z.ev z.H with | some (d, H') => some (z.next o.dst d H') | none => none := by
          intro z
          unfold eStep
          split
          · rename_i c e; exact absurd ⟨c, e⟩ hdfr
          · rfl
        have he : eOp P o.op σ.ev σ.H = eOp P o.op y.ev y.H := by rw [hH]; exact eOp_congr hev
        rw [e1] at h ⊢
        rw [he]
        cases hop : eOp P o.op y.ev y.H with
        | none => simp [hop] at h
        | some q =>
          simp only [hop] at h ⊢
          exact h ▸ behind_next hn hdf
  unfold StepsTo at h
  simp only [pops] at h ⊢
  split at h
  · exact run h
  · rename_i j b hg
    rw [hgd j b hg]
    split at h
    · split at h
      · rename_i e; rw [if_pos e]; exact run h
      · rename_i e; rw [if_neg e]; exact skip h
    · exact skip h
    · exact h.elim
/-- The same of a calm operation, whatever is put off. -/
theorem steps_calm {ops : Array Oper} {o : Oper} {σ y y' : PSt} (hk : kindOf P o < 2) (hn : σ.env.n = y.env.n) (hev : ∀ x ∈ o.op.operands, σ.ev x = y.ev x) (hgd : ∀ j b, o.guard = some (j, b) → guardD ops σ j = guardD ops y j) (hH : σ.H = y.H)
    (h : StepsTo P ops o y y') : pops P ops [o] (fun x => x.H = σ.H ∧ x.df = σ.df ∧ x.env.n = σ.env.n ∧ (∀ t, o.dst = some t → x.env.get t = y'.env.get t) ∧ (∀ t, o.dst ≠ some t → x.env.get t = σ.env.get t)) σ := by
  obtain ⟨d, h1, h2⟩ := calm_one hk h
  refine (h2 σ _ hev hgd (.inr hH)).1 ?_
  subst h1
  obtain ⟨dst, op, ty, pos, after, gd⟩ := o
  cases dst with
  | none => exact ⟨rfl, rfl, rfl, fun t h => (by cases h), fun t _ => rfl⟩
  | some u =>
    refine ⟨rfl, rfl, rfl, fun t ht => ?_, fun t ht => ?_⟩
    · cases ht
      simp only [PSt.put, Env.get_set, if_true, hn]
    · have : ¬ t = u := fun e => ht (by rw [e])
      simp only [PSt.put, Env.get_set, if_neg this]

/-- Where a run stands when the operations E are done. -/
structure At (P : Program) (l : List Oper) (s : Nat → PSt) (E : Nat → Prop) (σ : PSt) : Prop where
  n : σ.env.n = (s 0).env.n
  done : ∀ (t k : Nat) o, l[k]? = some o → o.dst = some t → E k → (∀ k' o', k < k' → l[k']? = some o' → o'.dst = some t → ¬ E k') → σ.env.get t = (s (k + 1)).env.get t
  none : ∀ (t : Nat), (∀ k o, l[k]? = some o → o.dst = some t → ¬ E k) → σ.env.get t = (s 0).env.get t
  heap : ∀ p, p ≤ l.length → (∀ (k : Nat) o, k < p → l[k]? = some o → ¬ kindOf P o < 2 → E k) → (p = l.length ∨ ∃ o, l[p]? = some o ∧ ¬ kindOf P o < 2 ∧ ¬ E p) → σ.H = (s p).H ∧ σ.df = (s p).df

/-- What the text's run leaves in a slot: what the last operation ahead left there. -/
theorem trace_env {s : Nat → PSt} (hl : ∀ (k : Nat) o, l[k]? = some o → ∀ t, o.dst ≠ some t → (s (k + 1)).env.get t = (s k).env.get t) (t : Nat) : ∀ m, m ≤ l.length →
    ((∀ (k : Nat) o, k < m → l[k]? = some o → o.dst ≠ some t) ∧ (s m).env.get t = (s 0).env.get t) ∨
    ∃ k o, k < m ∧ l[k]? = some o ∧ o.dst = some t ∧ (∀ (k' : Nat) o', k < k' → k' < m → l[k']? = some o' → o'.dst ≠ some t) ∧ (s m).env.get t = (s (k + 1)).env.get t
  | 0, _ => .inl ⟨fun k o h => by omega, rfl⟩
  | m + 1, hm => by
    obtain ⟨o, ho⟩ : ∃ o, l[m]? = some o := ⟨_, List.getElem?_eq_getElem (by omega)⟩
    by_cases hd : o.dst = some t
    · exact .inr ⟨m, o, by omega, ho, hd, fun k' o' h1 h2 => by omega, rfl⟩
    · have he := hl m o ho t hd
      rcases trace_env hl t m (by omega) with ⟨h1, h2⟩ | ⟨k, o1, h1, h2, h3, h4, h5⟩
      · refine .inl ⟨fun k o' hk hk' => ?_, he.trans h2⟩
        rcases Nat.lt_or_ge k m with h | h
        · exact h1 k o' h hk'
        · have : k = m := by omega
          subst this
          rw [ho] at hk'; cases hk'; exact hd
      · refine .inr ⟨k, o1, by omega, h2, h3, fun k' o' h6 h7 h8 => ?_, he.trans h5⟩
        rcases Nat.lt_or_ge k' m with h | h
        · exact h4 k' o' h6 h h8
        · have : k' = m := by omega
          subst this
          rw [ho] at h8; cases h8; exact hd
theorem trace_heap {s : Nat → PSt} (hl : ∀ (k : Nat) o, l[k]? = some o → kindOf P o < 2 → (s (k + 1)).H = (s k).H ∧ (s (k + 1)).df = (s k).df) (a : Nat) : ∀ m, a ≤ m → m ≤ l.length → (∀ (k : Nat) o, a ≤ k → k < m → l[k]? = some o → kindOf P o < 2) → (s m).H = (s a).H ∧ (s m).df = (s a).df
  | 0, h, _, _ => by have : a = 0 := by omega
                     subst this; exact ⟨rfl, rfl⟩
  | m + 1, h, hm, hk => by
    rcases Nat.lt_or_ge m a with hlt | hge
    · have : a = m + 1 := by omega
      subst this; exact ⟨rfl, rfl⟩
    · obtain ⟨o, ho⟩ : ∃ o, l[m]? = some o := ⟨_, List.getElem?_eq_getElem (by omega)⟩
      have h1 := hl m o ho (hk m o hge (by omega) ho)
      have h2 := trace_heap hl a m hge (by omega) (fun k o h3 h4 => hk k o h3 (by omega))
      exact ⟨h1.1.trans h2.1, h1.2.trans h2.2⟩

theorem first_open (E : Nat → Prop) : ∀ m, m ≤ l.length → ∃ p, m ≤ p ∧ p ≤ l.length ∧ (∀ (k : Nat) o, m ≤ k → k < p → l[k]? = some o → ¬ kindOf P o < 2 → E k) ∧ (p = l.length ∨ ∃ o, l[p]? = some o ∧ ¬ kindOf P o < 2 ∧ ¬ E p) := by
  have : ∀ d m, m + d = l.length → ∃ p, m ≤ p ∧ p ≤ l.length ∧ (∀ (k : Nat) o, m ≤ k → k < p → l[k]? = some o → ¬ kindOf P o < 2 → E k) ∧ (p = l.length ∨ ∃ o, l[p]? = some o ∧ ¬ kindOf P o < 2 ∧ ¬ E p) := by
    intro d
    induction d with
    | zero => intro m hm; exact ⟨m, Nat.le_refl _, by omega, fun k o h1 h2 => by omega, .inl (by omega)⟩
    | succ d ih =>
      intro m hm
      obtain ⟨o, ho⟩ : ∃ o, l[m]? = some o := ⟨_, List.getElem?_eq_getElem (by omega)⟩
      by_cases hq : ¬ kindOf P o < 2 ∧ ¬ E m
      · exact ⟨m, Nat.le_refl _, by omega, fun k o h1 h2 => by omega, .inr ⟨o, ho, hq⟩⟩
      · obtain ⟨p, h1, h2, h3, h4⟩ := ih (m + 1) (by omega)
        refine ⟨p, by omega, h2, fun k o' h5 h6 h7 h8 => ?_, h4⟩
        rcases Nat.lt_or_ge m k with h | h
        · exact h3 k o' h h6 h7 h8
        · have : k = m := by omega
          subst this
          rw [ho] at h7; cases h7
          exact Classical.byContradiction fun h9 => hq ⟨h8, h9⟩
  intro m hm
  exact this (l.length - m) m (by omega)
theorem last_two (a : Nat) : ∀ p, p ≤ l.length → a ≤ p → (∀ (k : Nat) o, a ≤ k → k < p → l[k]? = some o → kindOf P o < 2) ∨ ∃ i oi, a ≤ i ∧ i < p ∧ l[i]? = some oi ∧ ¬ kindOf P oi < 2 ∧ ∀ (k : Nat) o, i < k → k < p → l[k]? = some o → kindOf P o < 2
  | 0, _, _ => .inl fun k o h1 h2 => by omega
  | p + 1, hp, ha => by
    obtain ⟨o, ho⟩ : ∃ o, l[p]? = some o := ⟨_, List.getElem?_eq_getElem (by omega)⟩
    rcases Nat.lt_or_ge p a with hlt | hge
    · exact .inl fun k o h1 h2 => by omega
    · by_cases hk : kindOf P o < 2
      · rcases last_two a p (by omega) hge with h | ⟨i, oi, h1, h2, h3, h4, h5⟩
        · refine .inl fun k o' h1 h2 h3 => ?_
          rcases Nat.lt_or_ge k p with q | q
          · exact h k o' h1 q h3
          · have : k = p := by omega
            subst this; rw [ho] at h3; cases h3; exact hk
        · refine .inr ⟨i, oi, h1, by omega, h3, h4, fun k o' h6 h7 h8 => ?_⟩
          rcases Nat.lt_or_ge k p with q | q
          · exact h5 k o' h6 q h8
          · have : k = p := by omega
            subst this; rw [ho] at h8; cases h8; exact hk
      · exact .inr ⟨p, o, hge, by omega, ho, hk, fun k o' h6 h7 => by omega⟩

/-- One step more, of those that may come next. -/
theorem at_step (hT : Trace P l s) {E : Nat → Prop} (hcl : ∀ i m, Reach l i m → E m → E i) {k : Nat} {o : Oper} (ho : l[k]? = some o) (hk : ¬ E k) (hpre : ∀ i, Reach l i k → E i) {σ : PSt} (hA : At P l s E σ) :
    pops P l.toArray [o] (At P l s (fun j => E j ∨ j = k)) σ := by
  have hlt : k < l.length := (List.getElem?_eq_some_iff.1 ho).1
  have hn : ∀ m, m ≤ l.length → (s m).env.n = (s 0).env.n := by
    intro m
    induction m with
    | zero => intro _; rfl
    | succ m ih =>
      intro hm
      obtain ⟨o', ho'⟩ : ∃ o', l[m]? = some o' := ⟨_, List.getElem?_eq_getElem (by omega)⟩
      exact (hT.led m o' ho').2.1.trans (ih (by omega))
  -- those behind k that are done don't touch what k looks at
  have later : ∀ j oj, l[j]? = some oj → k < j → E j → (∀ t, oj.dst = some t → t ∉ o.looksAt l.toArray) ∧ (∀ t, oj.dst = some t → o.dst ≠ some t) ∧ (kindOf P oj < 2 ∨ kindOf P o < 2) := by
    intro j oj hj hkj hEj
    rcases hT.order j k oj o hj ho hkj with h | ⟨h1, h2, h3, h4⟩
    · exact absurd (hcl _ _ h hEj) hk
    · exact ⟨h2, h3, h4⟩
  have earlier : ∀ j oj, l[j]? = some oj → j < k → ¬ E j → (∀ t, oj.dst = some t → t ∉ o.looksAt l.toArray) ∧ (kindOf P o < 2 ∨ kindOf P oj < 2) := by
    intro j oj hj hjk hEj
    rcases hT.order k j o oj ho hj hjk with h | ⟨h1, h2, h3, h4⟩
    · exact absurd (hpre _ h) hEj
    · exact ⟨h1, h4⟩
  have look : ∀ t, t ∈ o.looksAt l.toArray → σ.env.get t = (s k).env.get t := by
    intro t ht
    rcases trace_env (fun k o h => (hT.led k o h).1) t k (by omega) with ⟨h1, h2⟩ | ⟨j, oj, h1, h2, h3, h4, h5⟩
    · rw [h2]
      refine hA.none t fun j oj hj hd hE => ?_
      rcases Nat.lt_trichotomy j k with h | h | h
      · exact h1 j oj h hj hd
      · subst h; exact hk hE
      · exact (later j oj hj h hE).1 t hd ht
    · rw [h5]
      refine hA.done t j oj h2 h3 (Classical.byContradiction fun hE => (earlier j oj h2 h1 hE).1 t h3 ht) fun j' o' h6 h7 h8 hE => ?_
      rcases Nat.lt_trichotomy j' k with h | h | h
      · exact h4 j' o' h6 h h7 h8
      · subst h; exact hk hE
      · exact (later j' o' h7 h hE).1 t h8 ht
  have hev : ∀ x ∈ o.op.operands, σ.ev x = (s k).ev x := by
    intro x hx
    cases x with
    | tmp t =>
      refine look t ?_
      simp only [Oper.looksAt, List.mem_append, List.mem_filterMap]
      exact .inl ⟨.tmp t, by simpa using hx, rfl⟩
    | _ => rfl
  have hgd : ∀ j b, o.guard = some (j, b) → guardD l.toArray σ j = guardD l.toArray (s k) j := by
    intro j b hg
    unfold guardD
    cases hb : (l.toArray[j]?).bind (·.dst) with
    | none => rfl
    | some u =>
      have : u ∈ o.looksAt l.toArray := by
        simp only [Oper.looksAt, hg, hb, List.mem_append]
        exact .inr (by simp)
      simp only [look u this]
  have hsn : σ.env.n = (s k).env.n := hA.n.trans (hn k (by omega)).symm
  -- what is behind the step
  have fin : ∀ x : PSt, x.env.n = σ.env.n → (∀ t, o.dst = some t → x.env.get t = (s (k + 1)).env.get t) → (∀ t, o.dst ≠ some t → x.env.get t = σ.env.get t) → (kindOf P o < 2 ∧ x.H = σ.H ∧ x.df = σ.df ∨ ¬ kindOf P o < 2 ∧ x.H = (s (k + 1)).H ∧ x.df = (s (k + 1)).df) →
      At P l s (fun j => E j ∨ j = k) x := by
    intro x xn xat xoff xH
    refine ⟨xn.trans hA.n, fun t j oj hj hd hE hno => ?_, fun t hno => ?_, fun p hp h1 h2 => ?_⟩
    · by_cases hot : o.dst = some t
      · rw [xat t hot]
        rcases Nat.lt_trichotomy j k with h | h | h
        · exact absurd (.inr rfl) (hno k o h ho hot)
        · subst h; rfl
        · have hEj : E j := hE.resolve_right (by omega)
          exact absurd hot ((later j oj hj h hEj).2.1 t hd)
      · rw [xoff t hot]
        have hjk : j ≠ k := fun e => by subst e; rw [ho] at hj; cases hj; exact hot hd
        exact hA.done t j oj hj hd (hE.resolve_right hjk) fun k' o' h1 h2 h3 h4 => hno k' o' h1 h2 h3 (.inl h4)
    · have hot : o.dst ≠ some t := fun e => hno k o ho e (.inr rfl)
      rw [xoff t hot]
      exact hA.none t fun j oj hj hd hE => hno j oj hj hd (.inl hE)
    · rcases xH with ⟨q1, q2, q3⟩ | ⟨q1, q2, q3⟩
      · rw [q2, q3]
        refine hA.heap p hp (fun j oj h3 h4 h5 => (h1 j oj h3 h4 h5).resolve_right fun e => ?_) (h2.imp id fun ⟨o', h3, h4, h5⟩ => ⟨o', h3, h4, fun h6 => h5 (.inl h6)⟩)
        subst e; rw [ho] at h4; cases h4; exact h5 q1
      · rw [q2, q3]
        have hkp : k < p := by
          rcases h2 with rfl | ⟨o', h3, h4, h5⟩
          · exact hlt
          · rcases Nat.lt_trichotomy p k with h | h | h
            · exfalso
              rcases (earlier p o' h3 h (fun e => h5 (.inl e))).2 with q | q
              · exact q1 q
              · exact h4 q
            · exact absurd (.inr h) h5
            · exact h
        have := trace_heap (P := P) (l := l) (s := s) (fun k o h => (hT.led k o h).2.2) (k + 1) p hkp hp (fun j oj h3 h4 h5 => by
          refine Classical.byContradiction fun h6 => ?_
          have hEj : E j := (h1 j oj h4 h5 h6).resolve_right (by omega)
          rcases (later j oj h5 (by omega) hEj).2.2 with q | q
          · exact h6 q
          · exact q1 q)
        exact ⟨this.1.symm, this.2.symm⟩
  have wrap : ∀ K : PSt → Prop, (∀ x, K x → At P l s (fun j => E j ∨ j = k) x) → pops P l.toArray [o] K σ → pops P l.toArray [o] (At P l s (fun j => E j ∨ j = k)) σ := fun K hK h => pone_mono hK h
  by_cases hkind : kindOf P o < 2
  · -- calm
    obtain ⟨p, _, hp, h1, h2⟩ := first_open (P := P) (l := l) E 0 (by omega)
    obtain ⟨hH, hdf⟩ := hA.heap p hp (fun j oj h => h1 j oj (by omega) h) h2
    have hstep : StepsTo P l.toArray o { s k with H := (s p).H } { s (k + 1) with H := (s p).H } := by
      rcases Nat.lt_or_ge p k with h | h
      · rcases h2 with rfl | ⟨op, h3, h4, h5⟩
        · omega
        · exact hT.early p k op o h3 ho h h4 hkind (fun hr => h5 (hpre _ hr))
      · rcases last_two (P := P) (l := l) k p hp h with h3 | ⟨i, oi, h3, h4, h5, h6, h7⟩
        · have := (trace_heap (P := P) (l := l) (s := s) (fun k o h => (hT.led k o h).2.2) k p h hp h3).1
          rw [this]
          have h8 := hT.step k o ho
          have e1 : ({ s k with H := (s k).H } : PSt) = s k := rfl
          have e2 : ({ s (k + 1) with H := (s k).H } : PSt) = s (k + 1) := by
            have := ((hT.led k o ho).2.2 hkind).1
            rw [← this]
          rw [e2]; exact h8
        · have hik : i ≠ k := fun e => by subst e; rw [ho] at h5; cases h5; exact h6 hkind
          have hEi : E i := h1 i oi (by omega) h4 h5 h6
          have := (trace_heap (P := P) (l := l) (s := s) (fun k o h => (hT.led k o h).2.2) (i + 1) p (by omega) hp (fun j oj h8 h9 => h7 j oj (by omega) h9)).1
          rw [this]
          exact hT.late i k oi o h5 ho (by omega) h6 hkind (fun hr => hk (hcl _ _ hr hEi))
    refine wrap _ ?_ (steps_calm (σ := σ) (y := { s k with H := (s p).H }) hkind hsn (fun x hx => (hev x hx).trans (by cases x <;> rfl)) (fun j b hg => (hgd j b hg).trans rfl) hH hstep)
    rintro x ⟨x1, x2, x3, x4, x5⟩
    exact fin x x3 x4 x5 (.inl ⟨hkind, x1, x2⟩)
  · obtain ⟨hH, hdf⟩ := hA.heap k (by omega) (fun j oj h3 h4 h5 => Classical.byContradiction fun hE => by
      rcases (earlier j oj h4 h3 hE).2 with q | q
      · exact hkind q
      · exact h5 q) (.inr ⟨o, ho, hkind, hk⟩)
    refine wrap _ ?_ (steps_transfer hsn hev hgd hH hdf (hT.step k o ho))
    rintro x ⟨x1, x2, x3, x4, x5⟩
    exact fin x x3 x4 x5 (.inr ⟨hkind, x1, x2⟩)

variable {base : Prot} {w0 : World}
theorem trace_any (hT : Trace P l s) {Q : Exit → PSt → Prop} (hQ : Q .normal (s l.length)) {Γ0 : Gh} {N : Nat} : ∀ (fuel : Nat) (listed : Array Bool) (rem : List Nat), listed.size = l.length → (∀ i, i ∈ rem ↔ i < l.length ∧ listed.getD i false = false) → rem.Nodup → rem.length ≤ fuel →
    (∀ (k : Nat) o, l[k]? = some o → listed.getD k false = true → ∀ e ∈ o.after, Region.binds .any e = true → listed.getD e.on false = true) →
    ∀ (σ : PSt) (Γ : Gh) (w : World) (a : Act), Γ0.le Γ → Rel P base w0 Γ σ.H w → StRep P Γ σ a → a.tmps.size = N → At P l s (fun k => listed.getD k false = true) σ →
    wpAny P .any l.toArray (Post P base w0 Γ0 N Q) fuel listed a w := by
  have hready : ∀ (listed : Array Bool) (i : Nat), listed.size = l.length → i ∈ Region.ready .any l.toArray listed → i < l.length ∧ listed.getD i false = false ∧ ∃ oi, l[i]? = some oi ∧ ∀ e ∈ oi.after, Region.binds .any e = true → listed.getD e.on false = true := by
    intro listed i hsz
    simp only [Region.ready, List.mem_filter, List.mem_range, List.size_toArray, Bool.and_eq_true, Bool.not_eq_true']
    rintro ⟨h1, h2, h3⟩
    have h2' : listed.getD i false = false := by
      have hi : i < listed.size := by omega
      simp [hi] at h2 ⊢; exact h2
    refine ⟨h1, h2', l[i], List.getElem?_eq_getElem h1, fun e he hb => ?_⟩
    have : (l.toArray[i]?) = some l[i] := by simp [h1]
    rw [this] at h3
    simp only [Option.map_some, Option.getD_some] at h3
    have := Array.all_eq_true_iff_forall_mem.1 h3 e he
    rw [hb] at this
    simpa using this
  have hleast : ∀ (listed : Array Bool), listed.size = l.length → Region.ready .any l.toArray listed = [] → ∀ m, m ≤ l.length → ∀ i, i < m → listed.getD i false = true := by
    intro listed hsz hr m
    induction m with
    | zero => intro _ i hi; omega
    | succ m ih =>
      intro hm i hi
      rcases Nat.lt_or_ge i m with h | h
      · exact ih (by omega) i h
      · have : i = m := by omega
        subst this
        cases hli : listed.getD i false
        · exfalso
          have : i ∈ Region.ready .any l.toArray listed := by
            simp only [Region.ready, List.mem_filter, List.mem_range, List.size_toArray, Bool.and_eq_true, Bool.not_eq_true']
            have hlt : i < listed.size := by omega
            refine ⟨by omega, by simp [hlt] at hli ⊢; exact hli, ?_⟩
            have hlt' : i < l.length := by omega
            have : (l.toArray[i]?) = some l[i] := by simp [hlt']
            rw [this]
            simp only [Option.map_some, Option.getD_some]
            refine Array.all_eq_true_iff_forall_mem.2 fun e he => ?_
            cases hb : Region.binds .any e
            · rfl
            · have := ih (by omega) e.on (hT.back i l[i] (List.getElem?_eq_getElem hlt') e he hb)
              simp [this]
          rw [hr] at this
          cases this
        · rfl
  have hend : ∀ (listed : Array Bool) (σ : PSt) (Γ : Gh) (w : World) (a : Act), listed.size = l.length → (∀ i, i < l.length → listed.getD i false = true) → Γ0.le Γ → Rel P base w0 Γ σ.H w → StRep P Γ σ a → a.tmps.size = N → At P l s (fun k => listed.getD k false = true) σ →
      Post P base w0 Γ0 N Q .normal a w := by
    intro listed σ Γ w a hsz hall h0 hR hE hN hA
    obtain ⟨hH, hdf⟩ := hA.heap l.length (Nat.le_refl _) (fun k o hk _ _ => hall k hk) (.inl rfl)
    have hget : ∀ t, σ.env.get t = (s l.length).env.get t := by
      intro t
      rcases trace_env (fun k o h => (hT.led k o h).1) t l.length (Nat.le_refl _) with ⟨h1, h2⟩ | ⟨j, oj, h1, h2, h3, h4, h5⟩
      · rw [h2]
        exact hA.none t fun j oj hj hd _ => h1 j oj (List.getElem?_eq_some_iff.1 hj).1 hj hd
      · rw [h5]
        exact hA.done t j oj h2 h3 (hall j h1) fun k' o' h6 h7 h8 _ => h4 k' o' h6 (List.getElem?_eq_some_iff.1 h7).1 h7 h8
    have hn : (s l.length).env.n = σ.env.n := by
      have : ∀ m, m ≤ l.length → (s m).env.n = (s 0).env.n := by
        intro m
        induction m with
        | zero => intro _; rfl
        | succ m ih =>
          intro hm
          obtain ⟨o', ho'⟩ : ∃ o', l[m]? = some o' := ⟨_, List.getElem?_eq_getElem (by omega)⟩
          exact (hT.led m o' ho').2.1.trans (ih (by omega))
      rw [this _ (Nat.le_refl _), hA.n]
    exact ⟨s l.length, Γ, h0, by rw [← hH]; exact hR, ⟨⟨by rw [hn]; exact hE.env.size, fun t ht => by rw [← hget]; exact hE.env.rep t ht⟩, by rw [← hdf]; exact hE.df⟩, hN, hQ⟩
  intro fuel
  induction fuel with
  | zero =>
    intro listed rem hsz hrem hnd hlen hcl σ Γ w a h0 hR hE hN hA
    have hr : rem = [] := List.eq_nil_of_length_eq_zero (by omega)
    have hall : ∀ i, i < l.length → listed.getD i false = true := fun i hi => by
      cases hli : listed.getD i false
      · have := (hrem i).2 ⟨hi, hli⟩; rw [hr] at this; cases this
      · rfl
    refine ⟨?_, hend listed σ Γ w a hsz hall h0 hR hE hN hA⟩
    apply List.eq_nil_iff_forall_not_mem.2
    intro i hi
    obtain ⟨h1, h2, _⟩ := hready listed i hsz hi
    rw [hall i h1] at h2; cases h2
  | succ fuel ih =>
    intro listed rem hsz hrem hnd hlen hcl σ Γ w a h0 hR hE hN hA
    refine ⟨fun hr => hend listed σ Γ w a hsz (fun i hi => hleast listed hsz hr l.length (Nat.le_refl _) i hi) h0 hR hE hN hA, fun i hi => ?_⟩
    obtain ⟨h1, h2, oi, ho, h3⟩ := hready listed i hsz hi
    have hclR : ∀ j m, Reach l j m → listed.getD m false = true → listed.getD j false = true := by
      intro j m hr
      induction hr with
      | one ho he hb => intro hm; exact hcl _ _ ho hm _ he hb
      | more ho he hb _ ihr => intro hm; exact ihr (hcl _ _ ho hm _ he hb)
    have hpre : ∀ j, Reach l j i → listed.getD j false = true := by
      intro j hr
      cases hr with
      | one ho' he hb => rw [ho] at ho'; cases ho'; exact h3 _ he hb
      | more ho' he hb hr' => rw [ho] at ho'; cases ho'; exact hclR _ _ hr' (h3 _ he hb)
    have hstep := at_step hT hclR ho (by simp [h2]) hpre hA
    have hset : ∀ j, (listed.setIfInBounds i true).getD j false = true ↔ (listed.getD j false = true ∨ j = i) := by
      intro j
      have hlt : i < listed.size := by omega
      by_cases e : j = i
      · subst e; simp [hlt]
      · have e' : i ≠ j := fun q => e q.symm
        simp [Array.getElem?_setIfInBounds_ne e', e]
    have hs := step_sound (next := wpAny P .any l.toArray (Post P base w0 Γ0 N Q) fuel (listed.setIfInBounds i true)) (Q' := Post P base w0 Γ0 N Q) hR hE hstep
      (fun σ' Γ' w' a' hle hR' hE' hs' hA' => by
        refine ih (listed.setIfInBounds i true) (rem.erase i) (by simpa using hsz) (fun j => ?_) (hnd.erase i) ?_ ?_ σ' Γ' w' a' (h0.trans hle) hR' hE' (hs'.trans hN) ?_
        · rw [List.Nodup.mem_erase_iff hnd, hrem j]
          have := hset j
          cases q1 : (listed.setIfInBounds i true).getD j false <;> cases q2 : listed.getD j false <;> simp [q1, q2] at this ⊢
          · exact fun _ => this
          · rw [this]; intro q; exact absurd rfl q
        · have hm : i ∈ rem := (hrem i).2 ⟨h1, h2⟩
          rw [List.length_erase_of_mem hm]; omega
        · intro k o hk hlk e he hb
          rw [hset] at hlk ⊢
          rcases hlk with hlk | rfl
          · exact .inl (hcl k o hk hlk e he hb)
          · rw [ho] at hk; cases hk; exact .inl (h3 e he hb)
        · have : (fun k => (listed.setIfInBounds i true).getD k false = true) = (fun j => listed.getD j false = true ∨ j = i) := by funext j; exact propext (hset j)
          rw [this]; exact hA')
    have ho' : l.toArray[i]? = some oi := by simpa using ho
    unfold wpOp
    rw [ho']
    simp only
    split
    · rename_i hw; rw [if_pos hw] at hs; exact .inl hs
    · rename_i hw; rw [if_neg hw] at hs; exact hs
/-- A region whose order is left open, by its run in the text's order. -/
theorem pwp_region_trace (hm : P.follows .mixedOrders = true) {id : Nat} {n : Nat} {Q : Exit → PSt → Prop} (hT : Trace P l s) (hQ : Q .normal (s l.length)) : pwp P n (.region id l.toArray true) Q (s 0) := by
  intro base w0 Γ w a h1 h2 h3
  refine wp_region_any hm ?_
  have hR : Rel P base w0 Γ (s 0).H { w with drawn := w.drawn + 1 } := h1.drew
  have hsz : l.toArray.size = l.length := by simp
  rw [hsz]
  refine trace_any (base := base) (w0 := w0) hT hQ (Γ0 := Γ) (N := n) l.length (Array.replicate l.length false) (List.range l.length) (by simp) (fun i => ?_) List.nodup_range (by simp) (fun k o _ hk => by simp [Array.getElem?_replicate] at hk; split at hk <;> simp at hk) (s 0) Γ { w with drawn := w.drawn + 1 } a (.refl Γ) hR h2 h3 ?_
  · simp [Array.getElem?_replicate]
    intro h; simp [h]
  · refine ⟨rfl, fun t k o _ _ hE => ?_, fun t _ => rfl, fun p hp h1 h2 => ?_⟩
    · simp [Array.getElem?_replicate] at hE; split at hE <;> simp at hE
    · have := trace_heap (P := P) (l := l) (s := s) (fun k o h => (hT.led k o h).2.2) 0 p (by omega) hp (fun j oj _ h4 h5 => Classical.byContradiction fun h6 => by
        have := h1 j oj h4 h5 h6
        simp [Array.getElem?_replicate] at this; split at this <;> simp at this)
      exact ⟨this.1.symm, this.2.symm⟩
end
end Go.Pv
