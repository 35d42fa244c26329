/- A run that is calculated. -/
import Derived.Test.YtpedcchnhjffpaaGreatPvTrace
namespace Go.Pv
open Go.RowKit

/-! ### A run, calculated -/
abbrev Oracle := FuncId → List D → Heap → Option (D × Heap)
def evOp (call : Oracle) (P : Program) (o : Oper) (st : PSt) : Option PSt :=
  match isCall o.op with
  | some c => match callOf P st.ev c with
    | some (g, ds) => match call g ds st.H with
      | some (d, H') => some (st.next o.dst d H')
      | none => none
    | none => none
  | none => eStep P o st
def wanted (ops : Array Oper) (o : Oper) (st : PSt) : Option Bool :=
  match o.guard with
  | none => some true
  | some (j, b) => match guardD ops st j with
    | some (some t) => some (decide (t = b))
    | some none => some false
    | none => none
def evOps (call : Oracle) (P : Program) (ops : Array Oper) : List Oper → PSt → Option PSt
  | [], st => some st
  | o :: rest, st => match wanted ops o st with
    | some true => match evOp call P o st with
      | some st' => evOps call P ops rest st'
      | none => none
    | some false => evOps call P ops rest (st.put o.dst (.val undef))
    | none => none
/-! ### Values that are the same -/
def allZip {α : Type} (f : α → α → Bool) : List α → List α → Bool
  | [], [] => true
  | x :: xs, y :: ys => f x y && allZip f xs ys
  | _, _ => false
theorem allZip_eq {α : Type} {f : α → α → Bool} (h : ∀ x y, f x y = true → x = y) : ∀ (xs ys : List α), allZip f xs ys = true → xs = ys
  | [], [], _ => rfl
  | x :: xs, y :: ys, hh => by
    simp only [allZip, Bool.and_eq_true] at hh
    rw [h x y hh.1, allZip_eq h xs ys hh.2]
  | [], _ :: _, hh => by simp [allZip] at hh
  | _ :: _, [], hh => by simp [allZip] at hh
def sameV : Nat → Value → Value → Bool
  | 0, _, _ => false
  | n + 1, x, y => match x, y with
    | .bool a, .bool b => decide (a = b)
    | .int k a, .int j b => decide (k = j) && decide (a = b)
    | .float k a, .float j b => decide (k = j) && decide (a = b)
    | .string a, .string b => decide (a.data.toList = b.data.toList)
    | .pointer a, .pointer b => decide (a = b)
    | .slice a l c, .slice b m d => decide (a = b) && decide (l = m) && decide (c = d)
    | .map a, .map b => decide (a = b)
    | .func f a b, .func g c d => decide (f = g) && allZip (sameV n) a.toList c.toList && allZip (sameV n) b.toList d.toList
    | .nilFunc, .nilFunc => true
    | .nilIface, .nilIface => true
    | .iface t v, .iface u w => decide (t = u) && sameV n v w
    | .agg a, .agg b => allZip (sameV n) a.toList b.toList
    | .tuple a, .tuple b => allZip (sameV n) a.toList b.toList
    | _, _ => false
theorem sameV_eq : ∀ (n : Nat) (x y : Value), sameV n x y = true → x = y
  | 0, _, _, h => by simp [sameV] at h
  | n + 1, x, y, h => by
    have ih := allZip_eq (fun x y => sameV_eq n x y)
    have arr : ∀ a b : Array Value, allZip (sameV n) a.toList b.toList = true → a = b := fun a b hh => Array.toList_inj.1 (ih _ _ hh)
    unfold sameV at h
    split at h <;> (try simp only [Bool.and_eq_true, decide_eq_true_eq] at h)
    · subst h; rfl
    · obtain ⟨rfl, rfl⟩ := h; rfl
    · obtain ⟨rfl, rfl⟩ := h; rfl
    · rename_i a b
      have : a = b := by apply ByteArray.ext; apply Array.ext'; exact h
      subst this; rfl
    · subst h; rfl
    · obtain ⟨⟨rfl, rfl⟩, rfl⟩ := h; rfl
    · subst h; rfl
    · obtain ⟨⟨rfl, h1⟩, h2⟩ := h; rw [arr _ _ h1, arr _ _ h2]
    · rfl
    · rfl
    · obtain ⟨rfl, h1⟩ := h; rw [sameV_eq n _ _ h1]
    · rw [arr _ _ h]
    · rw [arr _ _ h]
    · cases h
def sameD : Nat → D → D → Bool
  | 0, _, _ => false
  | n + 1, x, y => match x, y with
    | .undef, .undef => true
    | .val a, .val b => sameV n a b
    | .slice g e l, .slice g' e' l' => decide (g = g') && decide (e = e') && allZip (sameD n) l l'
    | .arr i e o k, .arr i' e' o' k' => decide (i = i') && decide (e = e') && decide (o = o') && decide (k = k')
    | .row i e o k, .row i' e' o' k' => decide (i = i') && decide (e = e') && decide (o = o') && decide (k = k')
    | .agg l, .agg l' => allZip (sameD n) l l'
    | .tup l, .tup l' => allZip (sameD n) l l'
    | .ptr i o, .ptr i' o' => decide (i = i') && decide (o = o')
    | .rptr i e k c, .rptr i' e' k' c' => decide (i = i') && decide (e = e') && decide (k = k') && decide (c = c')
    | .obj l o, .obj l' o' => allZip (sameD n) l l' && decide (o = o')
    | .clo f a b, .clo f' a' b' => decide (f = f') && allZip (sameD n) a a' && allZip (sameD n) b b'
    | .ifc t d, .ifc t' d' => decide (t = t') && sameD n d d'
    | .mp i, .mp i' => decide (i = i')
    | _, _ => false
theorem sameD_eq : ∀ (n : Nat) (x y : D), sameD n x y = true → x = y
  | 0, _, _, h => by simp [sameD] at h
  | n + 1, x, y, h => by
    have ih := allZip_eq (fun x y => sameD_eq n x y)
    unfold sameD at h
    split at h <;> (try simp only [Bool.and_eq_true, decide_eq_true_eq] at h)
    · rfl
    · rw [sameV_eq n _ _ h]
    · obtain ⟨⟨rfl, rfl⟩, h⟩ := h; rw [ih _ _ h]
    · obtain ⟨⟨⟨rfl, rfl⟩, rfl⟩, rfl⟩ := h; rfl
    · obtain ⟨⟨⟨rfl, rfl⟩, rfl⟩, rfl⟩ := h; rfl
    · rw [ih _ _ h]
    · rw [ih _ _ h]
    · obtain ⟨rfl, rfl⟩ := h; rfl
    · obtain ⟨⟨⟨rfl, rfl⟩, rfl⟩, rfl⟩ := h; rfl
    · obtain ⟨h, rfl⟩ := h; rw [ih _ _ h]
    · obtain ⟨⟨rfl, h1⟩, h2⟩ := h; rw [ih _ _ h1, ih _ _ h2]
    · obtain ⟨rfl, h⟩ := h; rw [sameD_eq n _ _ h]
    · subst h; rfl
    · cases h

/-! ### A region whose order is open -/
def evStep (call : Oracle) (P : Program) (ops : Array Oper) (o : Oper) (st : PSt) : Option PSt :=
  match wanted ops o st with
  | some true => evOp call P o st
  | some false => some (st.put o.dst (.val undef))
  | none => none
def evTrace (call : Oracle) (P : Program) (ops : Array Oper) : List Oper → PSt → Option (List PSt)
  | [], _ => some []
  | o :: rest, st => match evStep call P ops o st with
    | some st' => match evTrace call P ops rest st' with
      | some l => some (st' :: l)
      | none => none
    | none => none
/-- The value of a calm operation. -/
def valueAt (P : Program) (ops : Array Oper) (o : Oper) (st : PSt) : Option D :=
  match wanted ops o st with
  | some true => match eOp P o.op st.ev st.H with
    | some (d, _) => some d
    | none => none
  | some false => some (.val undef)
  | none => none
def sameO : Option D → Option D → Bool
  | some a, some b => sameD 50 a b
  | _, _ => false
def backOk (l : List Oper) : Bool := l.zipIdx.all fun (o, k) => o.after.all fun e => !Region.binds .any e || decide (e.on < k)
def readsOk (P : Program) (l : List Oper) (ms : List Nat) (s : Nat → PSt) : Bool :=
  l.zipIdx.all fun (ok, k) => kindOf P ok != 1 || l.zipIdx.all fun (oi, i) => decide (kindOf P oi < 2) ||
    (if i < k then (ms.getD k 0).testBit i || sameO (valueAt P l.toArray ok (s k)) (valueAt P l.toArray ok { s k with H := (s i).H })
     else (ms.getD i 0).testBit k || sameO (valueAt P l.toArray ok (s k)) (valueAt P l.toArray ok { s k with H := (s (i + 1)).H }))
def evDraw (call : Oracle) (P : Program) (l : List Oper) (st : PSt) : Option PSt :=
  if drawOk P l = true then evOps call P l.toArray l st else
  if backOk l = true ∧ traceOk P l (masks l []) = true then match evTrace call P l.toArray l st with
    | some tr => if readsOk P l (masks l []) (fun k => (st :: tr).getD k st) = true then some ((st :: tr).getD l.length st) else none
    | none => none
  else none

def evCode (call : Oracle) (P : Program) : Nat → Code → PSt → Option (Exit × PSt)
  | 0, _, _ => none
  | n + 1, c, st => match c with
    | .skip | .label _ => some (.normal, st)
    | .region _ ops draw => match (if draw = true then evDraw call P ops.toList st else evOps call P ops ops.toList st) with
      | some st' => some (.normal, st')
      | none => none
    | .seq a b => match evCode call P n a st with
      | some (.normal, st') => evCode call P n b st'
      | r => r
    | .cond c x y => match st.ev c with
      | .val (.bool true) => evCode call P n x st
      | .val (.bool false) => evCode call P n y st
      | _ => none
    | .block id b => match evCode call P n b st with
      | some (.exit i, st') => if i = id then some (.normal, st') else some (.exit i, st')
      | r => r
    | .loop b => match evCode call P n b st with
      | some (.normal, st') => evCode call P n (.loop b) st'
      | r => r
    | .exit id => some (.exit id, st)
    | .goto l => some (.goto l, st)
    | .ret => some (.ret, st)
    | _ => none

/-! ### The same, of a call that was put off -/
def isRecover : Op → Bool
  | .call { callee := .builtin .recover, .. } => true
  | _ => false
def evOpsD (call : Oracle) (P : Program) (ops : Array Oper) : List Oper → PSt → Option PSt
  | [], st => some st
  | o :: rest, st => match wanted ops o st with
    | some true => if isRecover o.op = true then evOpsD call P ops rest (st.put o.dst (.val .nilIface)) else match evOp call P o st with
      | some st' => evOpsD call P ops rest st'
      | none => none
    | some false => evOpsD call P ops rest (st.put o.dst (.val undef))
    | none => none
def evCodeD (call : Oracle) (P : Program) : Nat → Code → PSt → Option (Exit × PSt)
  | 0, _, _ => none
  | n + 1, c, st => match c with
    | .region _ ops false => match evOpsD call P ops ops.toList st with
      | some st' => some (.normal, st')
      | none => none
    | .seq a b => match evCodeD call P n a st with
      | some (.normal, st') => evCodeD call P n b st'
      | r => r
    | .cond c x y => match st.ev c with
      | .val (.bool true) => evCodeD call P n x st
      | .val (.bool false) => evCodeD call P n y st
      | _ => none
    | c => evCode call P (n + 1) c st
/-- A function's text, if it is one that is entered. -/
def textOf (P : Program) (f : FuncId) (k : Nat) : Option (Func × Code) :=
  match P.funcs[f]? with
  | some fn => match fn.body with
    | some c => if (fn.name == "runtime.NumGoroutine") = false ∧ k ≤ fn.ntmps then some (fn, c) else none
    | none => none
  | none => none
def evDefers (call : Oracle) (P : Program) (n : Nat) : List (FuncId × List D) → Heap → Option Heap
  | [], H => some H
  | (f, ds) :: rest, H => match textOf P f ds.length with
    | some (fn, c) => match evCodeD call P n c ⟨initEnv fn.ntmps ds, H, []⟩ with
      | some (.normal, st) | some (.ret, st) => if st.df.isEmpty = true then match resultsE P st fn.results.toList with
        | some _ => evDefers call P n rest st.H
        | none => none else none
      | _ => none
    | none => none
def evBody (call : Oracle) (P : Program) (n : Nat) (fn : Func) (c : Code) (ds : List D) (H : Heap) : Option (D × Heap) :=
  match evCode call P n c ⟨initEnv fn.ntmps ds, H, []⟩ with
  | some (.normal, st) | some (.ret, st) => match evDefers call P n st.df st.H with
    | some H' => match resultsE P { st with H := H' } fn.results.toList with
      | some rs => some (tupD rs, H')
      | none => none
    | none => none
  | _ => none
/-- A function, with some that are known otherwise. -/
def evFn (prim : FuncId → Option (List D → Heap → Option (D × Heap))) (P : Program) : Nat → Oracle
  | 0, _, _, _ => none
  | n + 1, f, ds, H => match prim f with
    | some p => p ds H
    | none => match textOf P f ds.length with
      | some (fn, c) => evBody (evFn prim P n) P n fn c ds H
      | none => none

/-! ### It is so -/
def Good (P : Program) (call : Oracle) : Prop := ∀ g ds H d H', call g ds H = some (d, H') → PCalls P g ds H fun d' H'' => d' = d ∧ H'' = H'
section
variable {P : Program} {call : Oracle}

theorem evOp_sound (hg : Good P call) {o : Oper} {st st' : PSt} {K : PSt → Prop} (h : evOp call P o st = some st') (hK : K st') : popS P o st K := by
  unfold evOp at h
  unfold popS
  cases hc : isCall o.op with
  | some c =>
    simp only [hc] at h ⊢
    split at h
    case h_2 => cases h
    rename_i g ds hco
    split at h
    case h_2 => cases h
    rename_i d H' hcall
    cases h
    simp only [hco]
    exact (hg g ds _ d H' hcall).mono fun d' H'' ⟨e1, e2⟩ => by subst e1; subst e2; exact hK
  | none =>
    simp only [hc] at h ⊢
    simp only [h]; exact hK
theorem evOps_sound (hg : Good P call) {ops : Array Oper} : ∀ (l : List Oper) (st st' : PSt) (K : PSt → Prop), evOps call P ops l st = some st' → K st' → pops P ops l K st
  | [], st, st', K, h, hK => by cases h; exact hK
  | o :: rest, st, st', K, h, hK => by
    simp only [evOps] at h
    simp only [pops]
    unfold wanted at h
    split at h
    · rename_i hw
      split at h
      case h_2 => cases h
      rename_i s hs
      have hp := evOp_sound hg (K := pops P ops rest K) hs (evOps_sound hg rest s st' K h hK)
      split at hw
      · rename_i hgd; rw [hgd]; exact hp
      · rename_i j b hgd
        rw [hgd]
        simp only
        split at hw <;> first | (cases hw; done) | skip
        rename_i t ht
        rw [ht]
        have : t = b := by simpa using hw
        simp only [this, if_true]
        exact hp
    · rename_i hw
      have hp := evOps_sound hg rest _ st' K h hK
      split at hw
      · cases hw
      · rename_i j b hgd
        rw [hgd]
        simp only
        split at hw <;> first | (cases hw; done) | skip
        · rename_i t ht
          rw [ht]
          have : ¬ t = b := by simpa using hw
          simp only [this, if_false]
          exact hp
        · rename_i ht
          rw [ht]
          exact hp
    · cases h
theorem evStep_sound (hg : Good P call) {ops : Array Oper} {o : Oper} {st st' : PSt} (h : evStep call P ops o st = some st') : StepsTo P ops o st st' := by
  have : evOps call P ops [o] st = some st' := by
    unfold evStep at h
    simp only [evOps]
    split at h
    · rename_i hw; simp only [hw, h]
    · rename_i hw; cases h; simp only [hw]
    · cases h
  exact evOps_sound hg [o] st st' (fun s => s = st') this rfl
theorem evStep_led {ops : Array Oper} {o : Oper} {st st' : PSt} (h : evStep call P ops o st = some st') :
    (∀ t, o.dst ≠ some t → st'.env.get t = st.env.get t) ∧ st'.env.n = st.env.n ∧ (kindOf P o < 2 → st'.H = st.H ∧ st'.df = st.df) := by
  have put : ∀ d, (∀ t, o.dst ≠ some t → (st.put o.dst d).env.get t = st.env.get t) ∧ (st.put o.dst d).env.n = st.env.n := by
    intro d
    obtain ⟨dst, op, ty, pos, after, gd⟩ := o
    cases dst with
    | none => exact ⟨fun t _ => rfl, rfl⟩
    | some u =>
      refine ⟨fun t ht => ?_, rfl⟩
      have : ¬ t = u := fun e => ht (by rw [e])
      simp only [PSt.put, Env.get_set, if_neg this]
  unfold evStep at h
  split at h
  · unfold evOp at h
    split at h
    · rename_i c hc
      split at h
      case h_2 => cases h
      split at h
      case h_2 => cases h
      cases h
      exact ⟨(put _).1, (put _).2, fun hk => absurd (kind_noCall hk).1 (by rw [hc]; simp)⟩
    · unfold eStep at h
      split at h
      · rename_i c ho
        split at h
        · split at h
          · cases h
            exact ⟨(put _).1, (put _).2, fun hk => absurd ho ((kind_noCall hk).2 c)⟩
          · cases h
        · cases h
      · split at h
        · rename_i d H' hop
          cases h
          refine ⟨(put _).1, (put _).2, fun hk => ?_⟩
          obtain ⟨rfl, _⟩ := eOp_calm hk hop
          exact ⟨rfl, put_df _ _ _⟩
        · cases h
  · cases h
    exact ⟨(put _).1, (put _).2, fun _ => ⟨put_H _ _ _, put_df _ _ _⟩⟩
  · cases h
theorem evTrace_spec {ops : Array Oper} : ∀ (l : List Oper) (st : PSt) (tr : List PSt), evTrace call P ops l st = some tr → ∀ (k : Nat) o, l[k]? = some o → evStep call P ops o ((st :: tr).getD k st) = some ((st :: tr).getD (k + 1) st)
  | [], st, tr, h, k, o, ho => by simp at ho
  | o :: l, st, tr, h, k, o', ho => by
    simp only [evTrace] at h
    split at h
    case h_2 => cases h
    rename_i st' hs
    split at h
    case h_2 => cases h
    rename_i tr' htr
    cases h
    have hlen : ∀ (l : List Oper) (st : PSt) (tr : List PSt), evTrace call P ops l st = some tr → tr.length = l.length := by
      intro l
      induction l with
      | nil => intro st tr h; cases h; rfl
      | cons o l ih =>
        intro st tr h
        simp only [evTrace] at h
        split at h
        case h_2 => cases h
        split at h
        case h_2 => cases h
        rename_i tr2 h2
        cases h
        simp [ih _ _ h2]
    cases k with
    | zero => simp at ho; subst ho; simpa using hs
    | succ k =>
      have := evTrace_spec l st' tr' htr k o' (by simpa using ho)
      have hk : k < l.length := by have := (List.getElem?_eq_some_iff.1 ho).1; simpa using this
      have hl := hlen l st' tr' htr
      have e1 : (st :: st' :: tr').getD (k + 1) st = (st' :: tr').getD k st' := by
        have : k < (st' :: tr').length := by simp; omega
        simp [List.getD, List.getElem?_eq_getElem this]
      have e2 : (st :: st' :: tr').getD (k + 1 + 1) st = (st' :: tr').getD (k + 1) st' := by
        have : k + 1 < (st' :: tr').length := by simp; omega
        simp only [List.getD, List.getElem?_cons_succ, List.getElem?_eq_getElem this]
        have h2 : k < tr'.length := by omega
        simp [List.getElem?_eq_getElem h2]
      rw [e1, e2]; exact this
theorem valueAt_step {ops : Array Oper} {o : Oper} {st : PSt} {d : D} (hk : kindOf P o < 2) (h : valueAt P ops o st = some d) : StepsTo P ops o st (st.put o.dst d) := by
  obtain ⟨hc, hd⟩ := kind_noCall hk
  have hp : ∀ (K : PSt → Prop), popS P o st K = match eOp P o.op st.ev st.H with | some (d, H') => K (st.next o.dst d H') | none => False := by
    intro K
    have hs : eStep P o st = match eOp P o.op st.ev st.H with | some (d, H') => some (st.next o.dst d H') | none => none := by
      unfold eStep
      split
      · rename_i c e; exact absurd e (hd c)
      · rfl
    unfold popS
    rw [hc, hs]
    cases eOp P o.op st.ev st.H <;> rfl
  have run : (match eOp P o.op st.ev st.H with | some (d, _) => some d | none => none) = some d → popS P o st (fun s => s = st.put o.dst d) := by
    intro h
    rw [hp]
    split at h
    · rename_i d' H' he
      cases h
      obtain ⟨rfl, _⟩ := eOp_calm hk he
      exact next_same _ _ _
    · cases h
  unfold StepsTo
  simp only [pops]
  unfold valueAt wanted at h
  split at h
  · rename_i hw
    split at hw
    · rename_i hgd; rw [hgd]; exact run h
    · rename_i j b hgd
      rw [hgd]
      simp only
      split at hw <;> first | (cases hw; done) | skip
      rename_i t ht
      rw [ht]
      have : t = b := by simpa using hw
      simp only [this, if_true]
      exact run h
  · rename_i hw
    cases h
    split at hw
    · cases hw
    · rename_i j b hgd
      rw [hgd]
      simp only
      split at hw <;> first | (cases hw; done) | skip
      · rename_i t ht
        rw [ht]
        have : ¬ t = b := by simpa using hw
        simp only [this, if_false]
      · rename_i ht
        rw [ht]
        trivial
  · cases h
/-- A calm operation's value, where it was done. -/
theorem valueAt_of {ops : Array Oper} {o : Oper} {st st' : PSt} (hk : kindOf P o < 2) (h : evStep call P ops o st = some st') : ∃ d, valueAt P ops o st = some d ∧ st' = st.put o.dst d := by
  obtain ⟨hc, hd⟩ := kind_noCall hk
  unfold evStep at h
  unfold valueAt
  split at h
  · rename_i hw
    unfold evOp at h
    rw [hc] at h
    simp only at h
    unfold eStep at h
    split at h
    · rename_i c e; exact absurd e (hd c)
    · split at h
      · rename_i d H' he
        cases h
        obtain ⟨rfl, _⟩ := eOp_calm hk he
        exact ⟨d, by simp only [hw, he], next_same _ _ _⟩
      · cases h
  · rename_i hw
    cases h
    exact ⟨_, by simp only [hw], rfl⟩
  · cases h
theorem valueAt_zero {ops : Array Oper} {o : Oper} {st : PSt} {d : D} (hk : kindOf P o = 0) (h : valueAt P ops o st = some d) (H : Heap) : valueAt P ops o { st with H := H } = some d := by
  have hev : ∀ x, ({ st with H := H } : PSt).ev x = st.ev x := fun x => by cases x <;> rfl
  have hw : wanted ops o { st with H := H } = wanted ops o st := by unfold wanted guardD; rfl
  unfold valueAt at h ⊢
  rw [hw]
  split at h
  · split at h
    · rename_i d' H' he
      cases h
      rw [eOp_congr (ρ := st.ev) (fun x _ => hev x), (eOp_calm (by omega) he).2 hk H]
    · cases h
  · exact h
  · cases h
theorem evDraw_sound (hg : Good P call) (hm : P.follows .mixedOrders = true) {l : List Oper} {st st' : PSt} {id n : Nat} {Q : Exit → PSt → Prop} (h : evDraw call P l st = some st') (hQ : Q .normal st') : pwp P n (.region id l.toArray true) Q st := by
  unfold evDraw at h
  split at h
  · rename_i hok
    exact pwp_region_draw hm hok (evOps_sound hg l st st' (fun s => Q .normal s) h hQ)
  · split at h
    case isFalse => cases h
    rename_i hst
    obtain ⟨hb, ht⟩ := hst
    split at h
    case h_2 => cases h
    rename_i tr htr
    split at h
    case isFalse => cases h
    rename_i hro
    cases h
    have hspec := evTrace_spec l st tr htr
    generalize hs : (fun k => (st :: tr).getD k st) = s at hro
    have hs' : ∀ k, (st :: tr).getD k st = s k := fun k => by rw [← hs]
    simp only [hs'] at hspec hQ
    have hre : ∀ (i k : Nat) oi ok, l[i]? = some oi → l[k]? = some ok → ¬ kindOf P oi < 2 → kindOf P ok < 2 → (i < k ∧ ¬ Reach l i k → StepsTo P l.toArray ok { s k with H := (s i).H } { s (k + 1) with H := (s i).H }) ∧
        (k < i ∧ ¬ Reach l k i → StepsTo P l.toArray ok { s k with H := (s (i + 1)).H } { s (k + 1) with H := (s (i + 1)).H }) := by
      intro i k oi ok hi hk hki hkk
      obtain ⟨d, hd, hst⟩ := valueAt_of (call := call) hkk (hspec k ok hk)
      have go : ∀ H, valueAt P l.toArray ok { s k with H := H } = some d → StepsTo P l.toArray ok { s k with H := H } { s (k + 1) with H := H } := by
        intro H hv
        have h1 := valueAt_step hkk hv
        have : ({ s (k + 1) with H := H } : PSt) = ({ s k with H := H } : PSt).put ok.dst d := by rw [hst]; cases ok.dst <;> rfl
        rw [this]; exact h1
      by_cases h0 : kindOf P ok = 0
      · exact ⟨fun _ => go _ (valueAt_zero h0 hd _), fun _ => go _ (valueAt_zero h0 hd _)⟩
      · have h1 : kindOf P ok = 1 := by omega
        have hm1 : (ok, k) ∈ l.zipIdx := by rw [List.mem_zipIdx_iff_getElem?]; exact hk
        have r1 := List.all_eq_true.1 hro _ hm1
        simp only [h1] at r1
        have hm2 : (oi, i) ∈ l.zipIdx := by rw [List.mem_zipIdx_iff_getElem?]; exact hi
        have r2 : (l.zipIdx.all fun (oi, i) => decide (kindOf P oi < 2) ||
          (if i < k then ((masks l []).getD k 0).testBit i || sameO (valueAt P l.toArray ok (s k)) (valueAt P l.toArray ok { s k with H := (s i).H })
           else ((masks l []).getD i 0).testBit k || sameO (valueAt P l.toArray ok (s k)) (valueAt P l.toArray ok { s k with H := (s (i + 1)).H }))) = true := by simpa using r1
        have r3 := List.all_eq_true.1 r2 _ hm2
        simp only [Bool.or_eq_true, decide_eq_true_eq] at r3
        have r4 := r3.resolve_left hki
        have same : ∀ H, sameO (valueAt P l.toArray ok (s k)) (valueAt P l.toArray ok { s k with H := H }) = true → valueAt P l.toArray ok { s k with H := H } = some d := by
          intro H hh
          rw [hd] at hh
          cases hv : valueAt P l.toArray ok { s k with H := H } with
          | none => rw [hv] at hh; cases hh
          | some d' => rw [hv] at hh; rw [sameD_eq 50 d d' hh]
        have hms := masks_spec l l [] (fun j => by simp) (fun k i hb => by simp at hb)
        refine ⟨fun ⟨hik, hr⟩ => ?_, fun ⟨hki', hr⟩ => ?_⟩
        · rw [if_pos hik, Bool.or_eq_true] at r4
          rcases r4 with q | q
          · exact absurd (hms k i q) hr
          · exact go _ (same _ q)
        · rw [if_neg (by omega), Bool.or_eq_true] at r4
          rcases r4 with q | q
          · exact absurd (hms i k q) hr
          · exact go _ (same _ q)
    have hT : Trace P l s := {
      back := fun k o hk e he hbb => by
        have hm1 : (o, k) ∈ l.zipIdx := by rw [List.mem_zipIdx_iff_getElem?]; exact hk
        have := List.all_eq_true.1 hb _ hm1
        simp only at this
        have h2 := Array.all_eq_true_iff_forall_mem.1 this e he
        simpa [hbb] using h2
      led := fun k o hk => evStep_led (hspec k o hk)
      step := fun k o hk => evStep_sound hg (hspec k o hk)
      order := fun i j oi oj hi hj hji => traceOk_spec ht rfl hi hj hji
      early := fun i k oi ok hi hk hik h1 h2 h3 => (hre i k oi ok hi hk h1 h2).1 ⟨hik, h3⟩
      late := fun i k oi ok hi hk hki h1 h2 h3 => (hre i k oi ok hi hk h1 h2).2 ⟨hki, h3⟩ }
    have h0 : s 0 = st := by rw [← hs' 0]; rfl
    have := pwp_region_trace (P := P) (l := l) (s := s) hm (id := id) (n := n) (Q := Q) hT hQ
    rwa [h0] at this
theorem evCode_sound (hg : Good P call) (hm : P.follows .mixedOrders = true) {N : Nat} : ∀ (n : Nat) (c : Code) (st : PSt) (e : Exit) (st' : PSt) (Q : Exit → PSt → Prop), evCode call P n c st = some (e, st') → Q e st' → pwp P N c Q st
  | 0, c, st, e, st', Q, h, hQ => by simp [evCode] at h
  | n + 1, c, st, e, st', Q, h, hQ => by
    cases c <;> simp only [evCode] at h
    case skip => cases h; exact pwp_skip hQ
    case label l => cases h; exact pwp_label hQ
    case region id ops draw =>
      split at h
      case h_2 => cases h
      rename_i s hs
      cases h
      have he : ops = ops.toList.toArray := by simp
      cases draw with
      | false =>
        have hp := evOps_sound hg ops.toList st _ (fun st' => Q .normal st') hs hQ
        have := pwp_region (P := P) (n := N) (id := id) (ops := ops.toList) (st := st) (Q := Q) (by simpa using hp); simpa using this
      | true =>
        have := evDraw_sound (n := N) (id := id) (Q := Q) hg hm hs hQ
        simpa using this
    case seq a b =>
      split at h
      · rename_i s hs
        exact pwp_seq (evCode_sound hg hm n a st .normal s _ hs (evCode_sound hg hm n b s e st' Q h hQ))
      · rename_i hne
        refine pwp_seq (evCode_sound hg hm n a st e st' _ h ?_)
        cases e <;> first | exact hQ | exact absurd h (hne _)
    case cond c x y =>
      split at h
      · rename_i hc; exact pwp_cond hc (fun _ => evCode_sound hg hm n x st e st' Q h hQ) (fun q => by cases q)
      · rename_i hc; exact pwp_cond hc (fun q => by cases q) (fun _ => evCode_sound hg hm n y st e st' Q h hQ)
      · cases h
    case block id b =>
      split at h
      · rename_i i s hs
        split at h
        · rename_i e1
          cases h
          exact pwp_block (evCode_sound hg hm n b st (.exit i) _ _ hs (by simp only [inBlockP, e1, if_true]; exact hQ))
        · rename_i e1
          cases h
          exact pwp_block (evCode_sound hg hm n b st (.exit i) _ _ hs (by simp only [inBlockP, e1, if_false]; exact hQ))
      · rename_i hne
        refine pwp_block (evCode_sound hg hm n b st e st' _ h ?_)
        cases e <;> first | exact hQ | exact absurd h (hne _ _)
    case loop b =>
      let I : Nat → PSt → Prop := fun m s => m ≤ n + 1 ∧ evCode call P m (.loop b) s = some (e, st')
      refine pwp_loop I (n + 1) ⟨Nat.le_refl _, by simp only [evCode]; exact h⟩ ?_
      rintro m s ⟨hmn, hI⟩
      cases m with
      | zero => simp [evCode] at hI
      | succ m =>
        simp only [evCode] at hI
        split at hI
        · rename_i s2 hs2
          exact evCode_sound hg hm m b s .normal s2 _ hs2 ⟨m, by omega, by omega, hI⟩
        · rename_i hne
          refine evCode_sound hg hm m b s e st' _ hI ?_
          cases e <;> first | exact hQ | exact absurd hI (hne _)
    case exit id => cases h; exact pwp_exit hQ
    case goto l => cases h; exact pwp_goto hQ
    case ret => cases h; exact pwp_ret hQ
    all_goals cases h
termination_by n => n

variable {base : Prot} {w0 : World}
/-- What is told of a way out of a call that was put off. -/
def PostS (P : Program) (base : Prot) (w0 : World) (Γ0 : Gh) (cs : List Frame) (n : Nat) (e : Exit) (st : PSt) : Exit → Act → List Frame → World → Prop := fun e' a cs' w =>
  cs' = cs ∧ e' = e ∧ ∃ Γ, Γ0.le Γ ∧ Rel P base w0 Γ st.H w ∧ StRep P Γ st a ∧ a.tmps.size = n
theorem upon_not_recover {o : Oper} {a : Act} {w : World} {next : Act → World → Prop} {Q : Exit → Act → World → Prop} (h : o.wp P a w next Q) : ∀ w', (execOp a.eval o).run P w ≠ .ok .recover w' := by
  intro w' e
  unfold Oper.wp at h
  rw [e] at h
  exact h
theorem recover_run {o : Oper} {a : Act} (h : isRecover o.op = true) (w : World) : (execOp a.eval o).run P w = .ok .recover w := by
  obtain ⟨dst, op, ty, pos, after, gd⟩ := o
  unfold isRecover at h
  split at h
  · rename_i args ts e
    simp only at e
    subst e
    simp [execOp, resolve, invoke, builtin]
  · cases h
theorem evOpsD_sound (hg : Good P call) {ops : Array Oper} {cs : List Frame} (hcs : recoverD cs = none) {Γ0 : Gh} {N : Nat} : ∀ (l : List Oper) (k : Nat) (st st' : PSt), (∀ j, l[j]? = ops[k + j]?) → evOpsD call P ops l st = some st' →
    ∀ (Γ : Gh) (w : World) (a : Act), Γ0.le Γ → Rel P base w0 Γ st.H w → StRep P Γ st a → a.tmps.size = N → wpOpsS P ops (PostS P base w0 Γ0 cs N .normal st') (List.range' k l.length) a cs w
  | [], k, st, st', he, h, Γ, w, a, h0, hR, hE, hn => by
    cases h
    exact ⟨rfl, rfl, Γ, h0, hR, hE, hn⟩
  | o :: l, k, st, st', he, h, Γ, w, a, h0, hR, hE, hn => by
    have ho : ops[k]? = some o := by simpa using (he 0).symm
    have he' : ∀ j, l[j]? = ops[k + 1 + j]? := fun j => by have := he (j + 1); simpa [Nat.add_assoc, Nat.add_comm 1 j] using this
    rw [List.length_cons, List.range'_succ]
    simp only [wpOpsS, ho]
    simp only [evOpsD] at h
    have hwant : ∀ b, wanted ops o st = some b → Region.wanted o (yielded ops a.tmps) = b := by
      intro b hb
      unfold wanted at hb
      unfold Region.wanted
      split at hb
      · rename_i hgd; cases hb; simp only [hgd]
      · rename_i j b' hgd
        simp only [hgd]
        split at hb
        · rename_i t ht
          cases hb
          rw [guard_yield hE.env ht]
          by_cases e : t = b'
          · simp [e]
          · simp [e]
        · rename_i ht
          cases hb
          rw [guard_yield hE.env ht]; rfl
        · cases hb
    split at h
    · rename_i hw
      rw [hwant _ hw]
      simp only [if_true]
      split at h
      · rename_i hrec
        rw [recover_run hrec]
        simp only [hcs]
        exact evOpsD_sound hg hcs l (k + 1) _ st' he' h Γ w _ h0 (by rw [put_H]; exact hR) (hE.put (.val _)) ((actPut_size _ _ _).trans hn)
      · split at h
        case h_2 => cases h
        rename_i s hs
        have hwp : o.wp P a w (fun a' w' => wpOpsS P ops (PostS P base w0 Γ0 cs N .normal st') (List.range' (k + 1) l.length) a' cs w') (fun e a' w' => PostS P base w0 Γ0 cs N .normal st' e a' cs w') :=
          popS_sound (evOp_sound hg (K := fun s' => s' = s) hs rfl) hR hE (fun st2 Γ2 w2 a2 hle hR2 hE2 hs2 hk => by
            subst hk
            exact evOpsD_sound hg hcs l (k + 1) _ st' he' h Γ2 w2 a2 (h0.trans hle) hR2 hE2 (hs2.trans hn))
        have hnr := upon_not_recover hwp
        split
        · rename_i w' e; exact absurd e (hnr w')
        · exact hwp
    · rename_i hw
      rw [hwant _ hw]
      simp only [Bool.false_eq_true, if_false]
      exact evOpsD_sound hg hcs l (k + 1) _ st' he' h Γ w _ h0 (by rw [put_H]; exact hR) (hE.put (.val _)) ((actPut_size _ _ _).trans hn)
    · cases h
theorem evCodeD_sound (hg : Good P call) (hm : P.follows .mixedOrders = true) {cs : List Frame} (hcs : recoverD cs = none) {N : Nat} : ∀ (n : Nat) (c : Code) (st : PSt) (e : Exit) (st' : PSt), evCodeD call P n c st = some (e, st') →
    ∀ (Γ0 Γ : Gh) (w : World) (a : Act), Γ0.le Γ → Rel P base w0 Γ st.H w → StRep P Γ st a → a.tmps.size = N → c.wpS P (PostS P base w0 Γ0 cs N e st') a cs w
  | 0, c, st, e, st', h, _, _, _, _, _, _, _, _ => by simp [evCodeD] at h
  | n + 1, c, st, e, st', h, Γ0, Γ, w, a, h0, hR, hE, hn => by
    have plain : evCode call P (n + 1) c st = some (e, st') → c.wpS P (PostS P base w0 Γ0 cs N e st') a cs w := fun h => by
      refine wpS_of_wp (Code.wp_mono ?_ (evCode_sound hg hm (N := N) (n + 1) c st e st' (fun e' s => e' = e ∧ s = st') h ⟨rfl, rfl⟩ base w0 Γ w a hR hE hn))
      rintro e' a' w' ⟨s, Γ', x1, x2, x3, x4, rfl, rfl⟩
      exact ⟨rfl, rfl, Γ', h0.trans x1, x2, x3, x4⟩
    cases c
    case region id ops draw =>
      cases draw with
      | true => exact plain h
      | false =>
        simp only [evCodeD] at h
        split at h
        case h_2 => cases h
        rename_i s hs
        cases h
        refine wpS_region ?_
        have := evOpsD_sound (ops := ops) hg hcs (Γ0 := Γ0) (N := N) ops.toList 0 st _ (fun j => by simp) hs Γ w a h0 hR hE hn
        rwa [← List.range_eq_range', Array.length_toList] at this
    case seq x y =>
      simp only [evCodeD] at h
      split at h
      · rename_i s hs
        refine wpS_seq ?_
        have h1 := evCodeD_sound hg hm hcs (N := N) n x st .normal s hs Γ0 Γ w a h0 hR hE hn
        intro b k hb hr
        obtain ⟨e1, a1, cs1, w1, ⟨rfl, rfl, Γ1, y1, y2, y3, y4⟩, harr⟩ := h1 b k hb hr
        exact ⟨.normal, a1, _, w1, evCodeD_sound hg hm hcs (N := N) n y s e st' h Γ0 Γ1 w1 a1 y1 y2 y3 y4, harr⟩
      · rename_i hne
        refine wpS_seq ?_
        have h1 := evCodeD_sound hg hm hcs (N := N) n x st e st' h Γ0 Γ w a h0 hR hE hn
        intro b k hb hr
        obtain ⟨e1, a1, cs1, w1, ⟨rfl, rfl, rest⟩, harr⟩ := h1 b k hb hr
        refine ⟨e1, a1, _, w1, ?_, harr⟩
        cases e1 <;> first | exact ⟨rfl, rfl, rest⟩ | exact absurd h (hne _)
    case cond c x y =>
      simp only [evCodeD] at h
      have hv := hE.env.ev c
      split at h
      · rename_i hc
        rw [hc] at hv
        exact wpS_cond (rep_val hv) (by simpa using evCodeD_sound hg hm hcs (N := N) n x st e st' h Γ0 Γ w a h0 hR hE hn)
      · rename_i hc
        rw [hc] at hv
        exact wpS_cond (rep_val hv) (by simpa using evCodeD_sound hg hm hcs (N := N) n y st e st' h Γ0 Γ w a h0 hR hE hn)
      · cases h
    all_goals exact plain h

theorem textOf_some {f k : Nat} {fn : Func} {c : Code} (h : textOf P f k = some (fn, c)) : P.funcs[f]? = some fn ∧ fn.body = some c ∧ (fn.name == "runtime.NumGoroutine") = false ∧ k ≤ fn.ntmps := by
  unfold textOf at h
  split at h
  · rename_i fn' hf
    split at h
    · rename_i c' hb
      split at h
      · rename_i hc; cases h; exact ⟨hf, hb, hc.1, hc.2⟩
      · cases h
    · cases h
  · cases h
theorem evDefers_sound (hg : Good P call) (hm : P.follows .mixedOrders = true) (n : Nat) : ∀ (df : List (FuncId × List D)) (H H' : Heap) (K : Heap → Prop), evDefers call P n df H = some H' → K H' → runDefers P df H K
  | [], H, H', K, h, hK => by cases h; exact hK
  | (f, ds) :: rest, H, H', K, h, hK => by
    simp only [evDefers] at h
    split at h
    case h_2 => cases h
    rename_i fn c htx
    obtain ⟨hf, hb, hnm, hk⟩ := textOf_some htx
    have fin : ∀ (e : Exit) (st : PSt), (e = .normal ∨ e = .ret) → evCodeD call P n c ⟨initEnv fn.ntmps ds, H, []⟩ = some (e, st) → (if st.df.isEmpty = true then match resultsE P st fn.results.toList with
        | some _ => evDefers call P n rest st.H
        | none => none else none) = some H' → runDefers P ((f, ds) :: rest) H K := by
      intro e st hex hev h2
      split at h2
      case isFalse => cases h2
      rename_i hdf
      split at h2
      case h_2 => cases h2
      rename_i rs hrs
      refine ⟨callFunc_run hf hb hnm, fun base w0 Γ w args hR hA => ?_⟩
      obtain ⟨hE, hsz⟩ := initEnv_rep hA hk
      refine (callsD_of_wpS (R := fun e u' w' => u' = .returning ∧ ∃ v Γ' H'', e = .returned v ∧ Γ.le Γ' ∧ Rel P base w0 Γ' H'' w' ∧ runDefers P rest H'' K) hf hb ?_)
      intro c0 cs hc0
      have hcs : recoverD (c0 :: cs) = none := by simp [recoverD, hc0]
      have hwp := evCodeD_sound hg hm hcs (N := fn.ntmps) n c _ e st hev Γ Γ w ⟨args.toArray ++ Array.replicate (fn.ntmps - args.toArray.size) undef, []⟩ (.refl Γ) hR ⟨hE, rfl, by simp⟩ hsz
      intro b k hb' hr
      obtain ⟨e1, a1, cs1, w1, ⟨rfl, rfl, Γ1, y1, y2, y3, y4⟩, harr⟩ := hwp b k hb' hr
      refine ⟨e1, a1, _, w1, ?_, harr⟩
      obtain ⟨v, hres, _⟩ := results_rep (fn := fn) y2 y3.env hrs
      have hd : a1.defers = [] := by
        have h0 : st.df = [] := by simpa using hdf
        have := y3.df.1
        rw [h0] at this
        exact List.eq_nil_of_length_eq_zero this.symm
      have post : a1.defers = [] ∧ ∃ u', c0 :: cs = { c0 with mode := u' } :: cs ∧ ∃ v, (results fn a1.tmps).run P w1 = .ok v w1 ∧ u' = .returning ∧ ∃ v' Γ' H'', Ending.returned v = .returned v' ∧ Γ.le Γ' ∧ Rel P base w0 Γ' H'' w1 ∧ runDefers P rest H'' K :=
        ⟨hd, .returning, by rw [← hc0], v, hres, rfl, v, Γ1, st.H, rfl, y1, y2, evDefers_sound hg hm n rest st.H H' K h2 hK⟩
      rcases hex with rfl | rfl
      · exact post
      · exact post
    split at h
    · rename_i st hev; exact fin .normal st (.inl rfl) hev h
    · rename_i st hev; exact fin .ret st (.inr rfl) hev h
    · cases h
theorem evBody_sound (hg : Good P call) (hm : P.follows .mixedOrders = true) {n f : Nat} {fn : Func} {c : Code} {ds : List D} {H : Heap} {d : D} {H' : Heap} (htx : textOf P f ds.length = some (fn, c)) (h : evBody call P n fn c ds H = some (d, H')) :
    PCalls P f ds H fun d' H'' => d' = d ∧ H'' = H' := by
  obtain ⟨hf, hb, hnm, hk⟩ := textOf_some htx
  have fin : ∀ (e : Exit) (st : PSt), (e = .normal ∨ e = .ret) → evCode call P n c ⟨initEnv fn.ntmps ds, H, []⟩ = some (e, st) → (match evDefers call P n st.df st.H with
    | some H' => match resultsE P { st with H := H' } fn.results.toList with
      | some rs => some (tupD rs, H')
      | none => none
    | none => none) = some (d, H') → PCalls P f ds H fun d' H'' => d' = d ∧ H'' = H' := by
    intro e st hex hev h2
    split at h2
    case h_2 => cases h2
    rename_i H1 hd
    split at h2
    case h_2 => cases h2
    rename_i rs hrs
    simp only [Option.some.injEq, Prod.mk.injEq] at h2
    obtain ⟨rfl, e2⟩ := h2
    rw [← e2]
    refine PCalls.of_pwp (callFunc_run hf hb hnm) hf hb hk (evCode_sound hg hm n c _ e st _ hev ?_)
    have : runDefers P st.df st.H fun H' => match resultsE P { st with H := H' } fn.results.toList with
      | some ds => tupD ds = tupD rs ∧ H' = H1
      | none => False := evDefers_sound hg hm n st.df st.H H1 _ hd (by simp only [hrs]; simp)
    rcases hex with rfl | rfl
    · exact this
    · exact this
  unfold evBody at h
  split at h
  · rename_i st hev; exact fin .normal st (.inl rfl) hev h
  · rename_i st hev; exact fin .ret st (.inr rfl) hev h
  · cases h
theorem evFn_sound {prim : FuncId → Option (List D → Heap → Option (D × Heap))} (hp : ∀ f p, prim f = some p → ∀ ds H d H', p ds H = some (d, H') → PCalls P f ds H fun d' H'' => d' = d ∧ H'' = H') (hm : P.follows .mixedOrders = true) : ∀ n, Good P (evFn prim P n)
  | 0 => fun g ds H d H' h => by simp [evFn] at h
  | n + 1 => fun g ds H d H' h => by
    simp only [evFn] at h
    split at h
    · rename_i p hpr; exact hp g p hpr ds H d H' h
    · split at h
      · rename_i fn c htx
        exact evBody_sound (evFn_sound hp hm n) hm htx h
      · cases h
end
end Go.Pv
