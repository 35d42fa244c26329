/- A part of the proof: functions of the program, walked, or what operations come to. -/
import Derived.Test.YtpedcchnhjffpaaGreatPvDrawT
namespace Go.Pv
open Go.RowKit
/-! ### Regions whose order is open, with reads beside calls: the reads' objects lie below N, the calls leave what lies below N -/
def Low (N : Nat) (o : Oper) (st : PSt) : Prop := match o.op with
  | .load _ x => match st.ev x with
    | .ptr b _ => b < N
    | .rptr b _ _ _ => b < N
    | _ => True
  | _ => False
def EqLow (N : Nat) (H H' : Heap) : Prop := (∀ b, b < N → H'.get b = H.get b) ∧ H'.G = H.G
theorem EqLow.refl (N : Nat) (H : Heap) : EqLow N H H := ⟨fun _ _ => rfl, rfl⟩
theorem EqLow.trans {N : Nat} {a b c : Heap} (h : EqLow N a b) (k : EqLow N b c) : EqLow N a c := ⟨fun x hx => (k.1 x hx).trans (h.1 x hx), k.2.trans h.2⟩
theorem EqLow.symm {N : Nat} {a b : Heap} (h : EqLow N a b) : EqLow N b a := ⟨fun x hx => (h.1 x hx).symm, h.2.symm⟩
@[simp] theorem eqLow_self (N : Nat) (H : Heap) : EqLow N H H = True := eq_true (EqLow.refl N H)
theorem low_ev {N : Nat} {o : Oper} {st st' : PSt} (he : ∀ x ∈ o.op.operands, st'.ev x = st.ev x) (h : Low N o st) : Low N o st' := by
  unfold Low at *
  split at h
  · rename_i t x hop
    have : st'.ev x = st.ev x := he x (by rw [hop]; simp [Op.operands])
    rw [this]; exact h
  · exact h.elim
theorem low_load {P : Program} {N : Nat} {o : Oper} {st : PSt} {H H' : Heap} (hl : Low N o st) (h : EqLow N H H') : ∃ t x, o.op = .load t x ∧ eLoad P t (st.ev x) H' = eLoad P t (st.ev x) H := by
  unfold Low at hl
  split at hl
  · rename_i t x hop
    refine ⟨t, x, hop, ?_⟩
    generalize st.ev x = p at hl
    unfold eLoad
    split
    · rfl
    · rw [h.1 _ hl]
    · rw [h.1 _ hl]
    · rw [h.2]
    · rfl
  · exact hl.elim
def AgreeQ (N : Nat) (P : Program) (ops : Array Oper) (o : Oper) (st st' : PSt) : Prop :=
  (∀ x ∈ o.op.operands, st'.ev x = st.ev x) ∧ (∀ j b, o.guard = some (j, b) → guardD ops st' j = guardD ops st j) ∧ (kindOf P o = 0 ∨ st'.H = st.H ∨ (Low N o st ∧ EqLow N st.H st'.H))
theorem AgreeQ.refl (N : Nat) (P : Program) (ops : Array Oper) (o : Oper) (st : PSt) : AgreeQ N P ops o st st := ⟨fun _ _ => rfl, fun _ _ _ => rfl, .inr (.inl rfl)⟩
theorem AgreeQ.trans {N : Nat} {P : Program} {ops : Array Oper} {o : Oper} {a b c : PSt} (h : AgreeQ N P ops o a b) (k : AgreeQ N P ops o b c) : AgreeQ N P ops o a c := by
  refine ⟨fun x hx => (k.1 x hx).trans (h.1 x hx), fun j g hg => (k.2.1 j g hg).trans (h.2.1 j g hg), ?_⟩
  rcases h.2.2 with h1 | h1 | ⟨h1, h2⟩
  · exact .inl h1
  · rcases k.2.2 with k1 | k1 | ⟨k1, k2⟩
    · exact .inl k1
    · exact .inr (.inl (k1.trans h1))
    · exact .inr (.inr ⟨low_ev (fun x hx => (h.1 x hx).symm) k1, h1 ▸ k2⟩)
  · rcases k.2.2 with k1 | k1 | ⟨k1, k2⟩
    · exact .inl k1
    · exact .inr (.inr ⟨h1, k1 ▸ h2⟩)
    · exact .inr (.inr ⟨h1, h2.trans k2⟩)
theorem AgreeQ.symm {N : Nat} {P : Program} {ops : Array Oper} {o : Oper} {a b : PSt} (h : AgreeQ N P ops o a b) : AgreeQ N P ops o b a :=
  ⟨fun x hx => (h.1 x hx).symm, fun j g hg => (h.2.1 j g hg).symm, h.2.2.imp id fun q => q.imp Eq.symm fun ⟨h1, h2⟩ => ⟨low_ev h.1 h1, h2.symm⟩⟩
def SureQ (N : Nat) (P : Program) (ops : Array Oper) (o : Oper) (st : PSt) (d : D) : Prop := ∀ (s : PSt) (K : PSt → Prop), AgreeQ N P ops o st s → (K (s.put o.dst d) ↔ pone P ops o K s)
theorem SureQ.agree {N : Nat} {P : Program} {ops : Array Oper} {o : Oper} {st st' : PSt} {d : D} (h : SureQ N P ops o st d) (ha : AgreeQ N P ops o st st') : SureQ N P ops o st' d := fun s K hs => h s K (ha.trans hs)
theorem ev_H (st : PSt) (H : Heap) (x : Operand) : ({ st with H := H } : PSt).ev x = st.ev x := by cases x <;> rfl
theorem load_pone {P : Program} {ops : Array Oper} {o : Oper} {t : TypeId} {x : Operand} (hop : o.op = .load t x) (K : PSt → Prop) (s : PSt) (H : Heap) (he : eLoad P t (s.ev x) s.H = eLoad P t (s.ev x) H) :
    pone P ops o K s ↔ pone P ops o (fun z => K { z with H := s.H }) { s with H := H } := by
  have hpop : popS P o s K ↔ popS P o { s with H := H } (fun z => K { z with H := s.H }) := by
    unfold popS eStep
    rw [hop]
    simp only [isCall, eOp]
    have : ({ s with H := H } : PSt).ev x = s.ev x := ev_H s H x
    rw [this, he]
    cases eLoad P t (s.ev x) H with
    | none => exact Iff.rfl
    | some d =>
      simp only [atH]
      rw [next_same]
      have e2 : PSt.next { s with H := H } o.dst d H = { s with H := H }.put o.dst d := next_same { s with H := H } o.dst d
      rw [e2]
      cases o.dst <;> exact Iff.rfl
  have hput : K (s.put o.dst (.val undef)) ↔ K { (PSt.put { s with H := H } o.dst (.val undef)) with H := s.H } := by
    cases o.dst <;> exact Iff.rfl
  have hg : ∀ j, guardD ops { s with H := H } j = guardD ops s j := fun j => rfl
  unfold pone
  simp only [pops]
  split
  · exact hpop
  · rename_i j b hgd
    rw [hg]
    split
    · split
      · exact hpop
      · exact hput
    · exact hput
    · exact Iff.rfl
theorem calm_oneQ {N : Nat} {P : Program} {ops : Array Oper} {o : Oper} {K : PSt → Prop} {st : PSt} (ho : kindOf P o < 2) (h : pone P ops o K st) : ∃ d, K (st.put o.dst d) ∧ SureQ N P ops o st d := by
  obtain ⟨d, h1, h2⟩ := calm_one ho h
  refine ⟨d, h1, fun s K' hs => ?_⟩
  rcases hs.2.2 with q | q | ⟨q1, q2⟩
  · exact h2 s K' hs.1 hs.2.1 (.inl q)
  · exact h2 s K' hs.1 hs.2.1 (.inr q)
  · obtain ⟨t, x, hop, hld⟩ := low_load (P := P) q1 q2
    have hev : s.ev x = st.ev x := hs.1 x (by rw [hop]; simp [Op.operands])
    rw [load_pone hop K' s st.H (by rw [hev]; exact hld)]
    have := h2 { s with H := st.H } (fun z => K' { z with H := s.H }) (fun x hx => (ev_H s st.H x).trans (hs.1 x hx)) (fun j b hg => hs.2.1 j b hg) (.inr rfl)
    rw [← this]
    cases o.dst <;> exact Iff.rfl
def freeQ (P : Program) (ops : Array Oper) (T O : Nat → Bool) (oi : Oper) (i : Nat) (oj : Oper) (j : Nat) : Bool :=
  oi.apart ops oj && oj.apart ops oi && (kindOf P oi == 0 || kindOf P oj == 0 || (kindOf P oi == 1 && kindOf P oj == 1) || (O i && kindOf P oi == 1 && T j) || (O j && kindOf P oj == 1 && T i))
theorem freeQ_spec {P : Program} {ops : Array Oper} {T O : Nat → Bool} {oi oj : Oper} {i j : Nat} (h : freeQ P ops T O oi i oj j = true) : (∀ t, oj.dst = some t → t ∉ oi.looksAt ops) ∧ (∀ t, oi.dst = some t → t ∉ oj.looksAt ops) ∧ (∀ t, oi.dst = some t → oj.dst ≠ some t) ∧
    (kindOf P oi = 0 ∨ kindOf P oj = 0 ∨ (kindOf P oi = 1 ∧ kindOf P oj = 1) ∨ (O i = true ∧ kindOf P oi = 1 ∧ T j = true) ∨ (O j = true ∧ kindOf P oj = 1 ∧ T i = true)) := by
  simp only [freeQ, Bool.and_eq_true, Bool.or_eq_true, beq_iff_eq] at h
  obtain ⟨⟨h1, h2⟩, h3⟩ := h
  obtain ⟨a1, a2, a3⟩ := Oper.apart_spec h1
  refine ⟨a3, a1, a2, ?_⟩
  rcases h3 with (((q | q) | q) | q) | q
  · exact .inl q
  · exact .inr (.inl q)
  · exact .inr (.inr (.inl q))
  · exact .inr (.inr (.inr (.inl ⟨q.1.1, q.1.2, q.2⟩)))
  · exact .inr (.inr (.inr (.inr ⟨q.1.1, q.1.2, q.2⟩)))
def plistQ (P : Program) (ops : Array Oper) (N : Nat) (T O : Nat → Bool) (K : PSt → Prop) : List Nat → PSt → Prop
  | [], st => K st
  | i :: rest, st => match ops[i]? with
    | none => plistQ P ops N T O K rest st
    | some o => (O i = true → kindOf P o = 1 → Low N o st) ∧ pone P ops o (fun st' => (T i = true → EqLow N st.H st'.H) ∧ plistQ P ops N T O K rest st') st
theorem plistQ_some {P : Program} {ops : Array Oper} {N : Nat} {T O : Nat → Bool} {K : PSt → Prop} {i : Nat} {rest : List Nat} {o : Oper} (ho : ops[i]? = some o) (st : PSt) :
    plistQ P ops N T O K (i :: rest) st ↔ (O i = true → kindOf P o = 1 → Low N o st) ∧ pone P ops o (fun st' => (T i = true → EqLow N st.H st'.H) ∧ plistQ P ops N T O K rest st') st := by
  simp [plistQ, ho]
theorem agreeQ_led {N : Nat} {P : Program} {ops : Array Oper} {o p : Oper} {st st' : PSt} (hap : ∀ t, p.dst = some t → t ∉ o.looksAt ops) (hl : Led P p st st') (hH : kindOf P o = 0 ∨ kindOf P p < 2 ∨ (Low N o st ∧ EqLow N st.H st'.H)) : AgreeQ N P ops o st st' := by
  have h := agree_led (o := o) (p := p) (P := P) hap (st := st) (st' := { st' with H := st.H }) ⟨fun x hx => (ev_H st' st.H x).trans (hl.1 x hx), fun _ => rfl⟩
  refine ⟨fun x hx => hl.1 x fun t ht => looks_op (hap t ht) hx, fun j b hg => ?_, ?_⟩
  · have hne : ∀ t, p.dst = some t → (ops[j]?).bind (·.dst) ≠ some t := fun t ht => looks_guard (hap t ht) hg
    unfold guardD
    cases hb : (ops[j]?).bind (·.dst) with
    | none => rfl
    | some u =>
      have := hl.1 (.tmp u) (fun t ht e => hne t ht (by cases e; exact hb))
      simp only [PSt.ev] at this
      simp only [this]
  · rcases hH with q | q | q
    · exact .inl q
    · exact .inr (.inl (hl.2 q))
    · exact .inr (.inr q)
def drawOkQ (P : Program) (ops : List Oper) (T O : Nat → Bool) : Bool :=
  let ms := masks ops []
  ops.zipIdx.all fun (oi, i) => oi.after.all (fun e => !Region.binds .any e || decide (e.on < i)) && (ops.take i).zipIdx.all fun (oj, j) => (ms.getD i 0).testBit j || freeQ P ops.toArray T O oi i oj j
theorem drawOkQ_spec {P : Program} {l : List Oper} {T O : Nat → Bool} (h : drawOkQ P l T O = true) {i : Nat} {oi : Oper} (hi : l[i]? = some oi) :
    (∀ e ∈ oi.after, Region.binds .any e = true → e.on < i) ∧ ∀ (j : Nat) oj, j < i → l[j]? = some oj → Reach l j i ∨ freeQ P l.toArray T O oi i oj j = true := by
  have hm : (oi, i) ∈ l.zipIdx := by
    rw [List.mem_zipIdx_iff_getElem?]; exact hi
  have := List.all_eq_true.1 h _ hm
  simp only [Bool.and_eq_true] at this
  refine ⟨fun e he hb => ?_, fun j oj hj hoj => ?_⟩
  · have := Array.all_eq_true_iff_forall_mem.1 this.1 e he
    simpa [hb] using this
  · have hm2 : (oj, j) ∈ (l.take i).zipIdx := by
      rw [List.mem_zipIdx_iff_getElem?, List.getElem?_take, if_pos hj]; exact hoj
    have h2 := List.all_eq_true.1 this.2 _ hm2
    simp only [Bool.or_eq_true] at h2
    rcases h2 with h2 | h2
    · exact .inl (masks_spec l l [] (fun j => by simp) (fun k i hb => by simp at hb) i j h2)
    · exact .inr h2
section
variable {P : Program} {ops : Array Oper} {base : Prot} {w0 : World} {n N : Nat} {T O : Nat → Bool}
theorem extractQ {oi : Oper} {i : Nat} (hi : ops[i]? = some oi) (hk : kindOf P oi < 2) {K : PSt → Prop} {post : List Nat} : ∀ (pre : List Nat), (∀ j ∈ pre, ∃ oj, ops[j]? = some oj ∧ freeQ P ops T O oi i oj j = true) →
    ∀ {st : PSt} {Γ : Gh} {w : World} {a : Act}, Rel P base w0 Γ st.H w → StRep P Γ st a → plistQ P ops N T O K (pre ++ i :: post) st → ∃ d, SureQ N P ops oi st d ∧ (O i = true → kindOf P oi = 1 → Low N oi st)
  | [], _, st, _, _, _, _, _, h => by
    obtain ⟨h0, h1⟩ := (plistQ_some hi st).1 h
    obtain ⟨d, _, h2⟩ := calm_oneQ (N := N) hk h1
    exact ⟨d, h2, h0⟩
  | j :: pre, hp, st, Γ, w, a, hR, hE, h => by
    obtain ⟨oj, hj, hfr⟩ := hp j (by simp)
    obtain ⟨f1, f2, f3, f4⟩ := freeQ_spec hfr
    have h' := ((plistQ_some hj st).1 h).2
    have h2 : pone P ops oj (fun st' => ((∀ x ∈ oi.op.operands, st'.ev x = st.ev x) ∧ (Low N oi st → AgreeQ N P ops oi st st') ∧ (¬ (O i = true ∧ kindOf P oi = 1 ∧ T j = true) → AgreeQ N P ops oi st st')) ∧ plistQ P ops N T O K (pre ++ i :: post) st') st := by
      refine pone_mono' (fun st' hl q => ⟨⟨fun x hx => hl.1 x fun t ht => looks_op (f1 t ht) hx, fun hlow => ?_, fun hno => ?_⟩, q.2⟩) h'
      · rcases f4 with g | g | g | g | g
        · exact agreeQ_led f1 hl (.inl g)
        · exact agreeQ_led f1 hl (.inr (.inl (by omega)))
        · exact agreeQ_led f1 hl (.inr (.inl (by omega)))
        · exact agreeQ_led f1 hl (.inr (.inr ⟨hlow, q.1 g.2.2⟩))
        · exact agreeQ_led f1 hl (.inr (.inl (by omega)))
      · rcases f4 with g | g | g | g | g
        · exact agreeQ_led f1 hl (.inl g)
        · exact agreeQ_led f1 hl (.inr (.inl (by omega)))
        · exact agreeQ_led f1 hl (.inr (.inl (by omega)))
        · exact absurd g hno
        · exact agreeQ_led f1 hl (.inr (.inl (by omega)))
    have hs := step_sound (next := fun _ _ => ∃ d, SureQ N P ops oi st d ∧ (O i = true → kindOf P oi = 1 → Low N oi st)) (Q' := fun _ _ _ => False) hR hE h2 (fun st' Γ' w' a' hle hR' hE' hs' hk' => by
      obtain ⟨d, hd, hlow⟩ := extractQ hi hk pre (fun j hj => hp j (by simp [hj])) hR' hE' hk'.2
      have hlow' : O i = true → kindOf P oi = 1 → Low N oi st := fun q1 q2 => low_ev (fun x hx => (hk'.1.1 x hx).symm) (hlow q1 q2)
      have hag : AgreeQ N P ops oi st st' := by
        by_cases q : O i = true ∧ kindOf P oi = 1 ∧ T j = true
        · exact hk'.1.2.1 (hlow' q.1 q.2.1)
        · exact hk'.1.2.2 q
      exact ⟨d, hd.agree hag.symm, hlow'⟩)
    split at hs
    · exact wp_const hs
    · exact hs
theorem pushQ {oi : Oper} {i : Nat} (hi : ops[i]? = some oi) (hk : kindOf P oi < 2) {K : PSt → Prop} {post : List Nat} {d : D} : ∀ (pre : List Nat), (∀ j ∈ pre, ∃ oj, ops[j]? = some oj ∧ freeQ P ops T O oi i oj j = true) →
    ∀ {st : PSt}, SureQ N P ops oi st d → (O i = true → kindOf P oi = 1 → Low N oi st) → plistQ P ops N T O K (pre ++ i :: post) st → plistQ P ops N T O K (pre ++ post) (PSt.put st oi.dst d)
  | [], _, st, hs, _, h => ((hs st _ (AgreeQ.refl _ _ _ _ _)).2 ((plistQ_some hi st).1 h).2).2
  | j :: pre, hp, st, hs, hlow, h => by
    obtain ⟨oj, hj, hfr⟩ := hp j (by simp)
    obtain ⟨f1, f2, f3, f4⟩ := freeQ_spec hfr
    obtain ⟨hl0, h'⟩ := (plistQ_some hj st).1 h
    have hevj : ∀ x ∈ oj.op.operands, (st.put oi.dst d).ev x = st.ev x := fun x hx => ev_put fun t ht => looks_op (f2 t ht) hx
    refine (plistQ_some hj _).2 ⟨fun q1 q2 => low_ev hevj (hl0 q1 q2), (pone_frame f2 f3).2 ?_⟩
    refine pone_mono' (fun st' hl q => ⟨fun qt => by rw [put_H, put_H]; exact q.1 qt, ?_⟩) h'
    have hag : AgreeQ N P ops oi st st' := by
      rcases f4 with g | g | g | g | g
      · exact agreeQ_led f1 hl (.inl g)
      · exact agreeQ_led f1 hl (.inr (.inl (by omega)))
      · exact agreeQ_led f1 hl (.inr (.inl (by omega)))
      · exact agreeQ_led f1 hl (.inr (.inr ⟨hlow g.1 g.2.1, q.1 g.2.2⟩))
      · exact agreeQ_led f1 hl (.inr (.inl (by omega)))
    exact pushQ hi hk pre (fun j hj => hp j (by simp [hj])) (hs.agree hag) (fun q1 q2 => low_ev hag.1 (hlow q1 q2)) q.2
theorem frontQ {oi : Oper} {i : Nat} (hi : ops[i]? = some oi) (hk : ¬ kindOf P oi < 2) {K : PSt → Prop} {post : List Nat} : ∀ (pre : List Nat), (∀ j ∈ pre, ∃ oj, ops[j]? = some oj ∧ freeQ P ops T O oi i oj j = true) →
    ∀ {st : PSt}, plistQ P ops N T O K (pre ++ i :: post) st → pone P ops oi (fun st' => (T i = true → EqLow N st.H st'.H) ∧ plistQ P ops N T O K (pre ++ post) st') st
  | [], _, st, h => ((plistQ_some hi st).1 h).2
  | j :: pre, hp, st, h => by
    obtain ⟨oj, hj, hfr⟩ := hp j (by simp)
    obtain ⟨f1, f2, f3, f4⟩ := freeQ_spec hfr
    have kj : kindOf P oj < 2 := by omega
    obtain ⟨hl0, h'⟩ := (plistQ_some hj st).1 h
    obtain ⟨d, h1, h2⟩ := calm_oneQ (N := N) kj h'
    have h3 := frontQ hi hk pre (fun j hj => hp j (by simp [hj])) h1.2
    have h4 := (pone_frame (o := oi) f1 (fun t ht e => f3 t e ht)).1 h3
    refine pone_mono' (fun st' hl q => ?_) h4
    rw [put_H, put_H] at q
    refine ⟨q.1, ?_⟩
    have ha : AgreeQ N P ops oj st st' := by
      rcases f4 with g | g | g | g | g
      · omega
      · exact agreeQ_led f2 hl (.inl g)
      · omega
      · omega
      · exact agreeQ_led f2 hl (.inr (.inr ⟨hl0 g.1 g.2.1, q.1 g.2.2⟩))
    refine (plistQ_some hj _).2 ⟨fun q1 q2 => low_ev ha.1 (hl0 q1 q2), (h2 st' _ ha).1 ⟨fun qt => ?_, q.2⟩⟩
    rw [put_H]; exact EqLow.refl _ _
end
section
variable {P : Program} {base : Prot} {w0 : World} {n : Nat}
theorem drawQ_sound {N : Nat} {T O : Nat → Bool} {l : List Oper} (hok : drawOkQ P l T O = true) {Γ0 : Gh} {Q : Exit → PSt → Prop} : ∀ (fuel : Nat) (listed : Array Bool) (rem : List Nat), listed.size = l.length →
    (∀ i, i ∈ rem ↔ i < l.length ∧ listed.getD i true = false) → rem.Pairwise (· < ·) → rem.length ≤ fuel → Shut l listed →
    ∀ {st : PSt} {Γ : Gh} {w : World} {a : Act}, Γ0.le Γ → Rel P base w0 Γ st.H w → StRep P Γ st a → a.tmps.size = n → plistQ P l.toArray N T O (fun st' => Q .normal st') rem st →
    wpAny P .any l.toArray (Post P base w0 Γ0 n Q) fuel listed a w := by
  intro fuel
  have hready : ∀ (listed : Array Bool) (i : Nat), i ∈ Region.ready .any l.toArray listed ↔ i < l.length ∧ listed.getD i true = false ∧ ∃ oi, l[i]? = some oi ∧ ∀ e ∈ oi.after, Region.binds .any e = true → listed.getD e.on false = true := by
    intro listed i
    simp only [Region.ready, List.mem_filter, List.mem_range, List.size_toArray, Bool.and_eq_true, Bool.not_eq_true']
    constructor
    · rintro ⟨h1, h2, h3⟩
      refine ⟨h1, h2, l[i], List.getElem?_eq_getElem h1, fun e he hb => ?_⟩
      have : (l.toArray[i]?) = some l[i] := by simp [h1]
      rw [this] at h3
      simp only [Option.map_some, Option.getD_some] at h3
      have := Array.all_eq_true_iff_forall_mem.1 h3 e he
      rw [hb] at this
      simpa using this
    · rintro ⟨h1, h2, oi, ho, h3⟩
      refine ⟨h1, h2, ?_⟩
      have : (l.toArray[i]?) = some oi := by simpa using ho
      rw [this]
      simp only [Option.map_some, Option.getD_some]
      refine Array.all_eq_true_iff_forall_mem.2 fun e he => ?_
      cases hb : Region.binds .any e
      · rfl
      · simp [h3 e he hb]
  have hnil : ∀ (listed : Array Bool) (rem : List Nat), listed.size = l.length → (∀ i, i ∈ rem ↔ i < l.length ∧ listed.getD i true = false) → rem.Pairwise (· < ·) → Region.ready .any l.toArray listed = [] → rem = [] := by
    intro listed rem hs hrem hp hr
    cases rem with
    | nil => rfl
    | cons r rest =>
      exfalso
      obtain ⟨r1, r2⟩ := (hrem r).1 (by simp)
      have : r ∈ Region.ready .any l.toArray listed := by
        refine (hready listed r).2 ⟨r1, r2, l[r], List.getElem?_eq_getElem r1, fun e he hb => ?_⟩
        have hlt := (drawOkQ_spec hok (List.getElem?_eq_getElem r1)).1 e he hb
        have hnot : e.on ∉ r :: rest := by
          intro hm
          rcases List.mem_cons.1 hm with h | h
          · omega
          · have := List.rel_of_pairwise_cons hp h; omega
        have hne : ¬ (e.on < l.length ∧ listed.getD e.on true = false) := fun q => hnot ((hrem _).2 q)
        have hlt2 : e.on < listed.size := by omega
        have : listed.getD e.on true = true := by
          cases hq : listed.getD e.on true
          · exact absurd ⟨by omega, hq⟩ hne
          · rfl
        simpa [hlt2] using this
      rw [hr] at this
      simp at this
  induction fuel with
  | zero =>
    intro listed rem hs hrem hp hl hsh st Γ w a h0 hR hE hn hK
    have hr : rem = [] := List.eq_nil_of_length_eq_zero (by omega)
    subst hr
    refine ⟨?_, st, Γ, h0, hR, hE, hn, hK⟩
    apply List.eq_nil_iff_forall_not_mem.2
    intro i hi
    obtain ⟨h1, h2, _⟩ := (hready listed i).1 hi
    have := (hrem i).2 ⟨h1, h2⟩
    simp at this
  | succ fuel ih =>
    intro listed rem hs hrem hp hl hsh st Γ w a h0 hR hE hn hK
    refine ⟨fun hr => ?_, fun i hi => ?_⟩
    · obtain rfl := hnil listed rem hs hrem hp hr
      exact ⟨st, Γ, h0, hR, hE, hn, hK⟩
    · obtain ⟨h1, h2, oi, ho, h3⟩ := (hready listed i).1 hi
      have himem : i ∈ rem := (hrem i).2 ⟨h1, h2⟩
      obtain ⟨pre, post, rfl⟩ := List.append_of_mem himem
      have ho' : l.toArray[i]? = some oi := by simpa using ho
      have hpre : ∀ j ∈ pre, ∃ oj, l.toArray[j]? = some oj ∧ freeQ P l.toArray T O oi i oj j = true := by
        intro j hj
        have hji : j < i := by
          have := (List.pairwise_append.1 hp).2.2 j hj i (by simp)
          exact this
        have hjr := (hrem j).1 (by simp [hj])
        refine ⟨l[j]'hjr.1, by simp [hjr.1], ?_⟩
        rcases (drawOkQ_spec hok ho).2 j _ hji (List.getElem?_eq_getElem hjr.1) with h | h
        · have h4 := reach_listed hsh ho h3 h
          have hlt : j < listed.size := by omega
          have h5 : listed.getD j true = false := hjr.2
          simp [hlt] at h4 h5
          rw [h4] at h5; cases h5
        · exact h
      have hone : pone P l.toArray oi (plistQ P l.toArray N T O (fun st' => Q .normal st') (pre ++ post)) st := by
        by_cases hk : kindOf P oi < 2
        · obtain ⟨d, hd', hlow⟩ := extractQ ho' hk pre hpre hR hE hK
          exact (hd' st _ (AgreeQ.refl _ _ _ _ _)).1 (pushQ ho' hk pre hpre hd' hlow hK)
        · exact pone_mono (fun st' q => q.2) (frontQ ho' hk pre hpre hK)
      have hnd : (pre ++ i :: post).Nodup := hp.imp (fun h => Nat.ne_of_lt h)
      have hrem' : ∀ k, k ∈ pre ++ post ↔ k < l.length ∧ (listed.setIfInBounds i true).getD k true = false := by
        intro k
        have h5 := hrem k
        by_cases e : k = i
        · subst e
          have hnot : k ∉ pre ++ post := by
            rw [List.nodup_append] at hnd
            simp only [List.nodup_cons] at hnd
            intro hm
            rcases List.mem_append.1 hm with h | h
            · exact hnd.2.2 k h k (by simp) rfl
            · exact hnd.2.1.1 h
          have hlt : k < listed.size := by omega
          simp [hlt] at hnot ⊢
          exact hnot
        · have e1 : k ∈ pre ++ post ↔ k ∈ pre ++ i :: post := by simp [e]
          have e' : i ≠ k := fun q => e q.symm
          rw [e1, h5]
          simp [Array.getElem?_setIfInBounds_ne e']
      have hp' : (pre ++ post).Pairwise (· < ·) := hp.sublist (List.Sublist.append_left (List.sublist_cons_self i post) pre)
      have hs := step_sound (next := wpAny P .any l.toArray (Post P base w0 Γ0 n Q) fuel (listed.setIfInBounds i true)) (Q' := Post P base w0 Γ0 n Q) hR hE hone
        (fun st' Γ' w' a' hle hR' hE' hs' hk' => ih (listed.setIfInBounds i true) (pre ++ post) (by simpa using hs) hrem' hp' (by simp at hl ⊢; omega) (shut_set hs h1 ho h3 hsh) (h0.trans hle) hR' hE' (hs'.trans hn) hk')
      unfold wpOp
      rw [ho']
      simp only
      split
      · rename_i hw; rw [if_pos hw] at hs; exact .inl hs
      · rename_i hw; rw [if_neg hw] at hs; exact hs



/-- What is asked of a tame operation. -/
def tameK (N : Nat) (t : Bool) (H : Heap) (K : PSt → Prop) : PSt → Prop := fun st' => (t = true → EqLow N H st'.H) ∧ K st'
@[simp] theorem tameK_app (N : Nat) (t : Bool) (H : Heap) (K : PSt → Prop) (st : PSt) : tameK N t H K st = ((t = true → EqLow N H st.H) ∧ K st) := propext Iff.rfl
/-- The operations in their order, what is asked of the tame ones and the open reads told. -/
def popsQ (P : Program) (ops : Array Oper) (N : Nat) (T O : Nat → Bool) (K : PSt → Prop) (p : List Nat) : PSt → Prop := plistQ P ops N T O K p
theorem pwp_region_tame (hm : P.follows .mixedOrders = true) {id : Nat} {l : List Oper} {st : PSt} {Q : Exit → PSt → Prop} (N : Nat) (T O : Nat → Bool) (hok : drawOkQ P l T O = true) (h : plistQ P l.toArray N T O (fun st' => Q .normal st') (List.range' 0 l.length) st) :
    pwp P n (.region id l.toArray true) Q st := by
  intro base w0 Γ w a h1 h2 h3
  refine wp_region_any hm ?_
  have hR : Rel P base w0 Γ st.H { w with drawn := w.drawn + 1 } := h1.drew
  have hsz : l.toArray.size = l.length := by simp
  rw [hsz]
  refine drawQ_sound hok l.length (Array.replicate l.length false) (List.range' 0 l.length) (by simp) (fun i => ?_) ?_ (by simp) ?_ (.refl Γ) hR h2 h3 h
  · by_cases e : i < l.length
    · simp [e]
    · simp [e]
  · exact List.pairwise_lt_range'
  · intro k o hk hl
    exfalso
    have : k < l.length := (List.getElem?_eq_some_iff.1 hk).1
    simp [this] at hl
def lowD (N : Nat) (o : Oper) (st : PSt) : Prop := Low N o st
@[simp] theorem popsQ_nil {ops : Array Oper} {N : Nat} {T O : Nat → Bool} {K : PSt → Prop} (st : PSt) : popsQ P ops N T O K [] st = K st := propext Iff.rfl
@[simp] theorem popsQ_cons {ops : Array Oper} {N : Nat} {T O : Nat → Bool} {K : PSt → Prop} (i : Nat) (rest : List Nat) (st : PSt) : popsQ P ops N T O K (i :: rest) st = match ops[i]? with
    | none => popsQ P ops N T O K rest st
    | some o => (O i = true → kindOf P o = 1 → Low N o st) ∧ pops P ops [o] (tameK N (T i) st.H (popsQ P ops N T O K rest)) st := propext Iff.rfl
theorem region_tame_k {Q : Exit → PSt → Prop} {st : PSt} (hm : P.follows .mixedOrders = true) (N : Nat) (T O : List Nat) {id : Nat} {ops : List Oper} (hok : drawOkQ P ops (fun i => T.contains i) (fun i => O.contains i) = true)
    (h : ∀ K : PSt → Prop, Leads (fun st => Q .normal st) K → popsQ P ops.toArray N (fun i => T.contains i) (fun i => O.contains i) K (List.range' 0 ops.length) st) : pwp P n (.region id ops.toArray true) Q st :=
  pwp_region_tame hm N _ _ hok (h _ fun _ h => h)
end
end Go.Pv
