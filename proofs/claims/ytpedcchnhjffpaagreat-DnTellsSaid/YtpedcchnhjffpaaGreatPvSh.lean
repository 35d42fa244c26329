/- A part of the proof: functions of the program, walked, or what operations come to. -/
import Derived.Test.YtpedcchnhjffpaaGreatPvGen
import Derived.Test.YtpedcchnhjffpaaGreatPvN1
import Derived.Lib.Replace
namespace Go.Pv
open Go.RowKit
/-! ### The library's contracts as calls of mine -/
theorem repAll_vals {P : Program} {Γ : Gh} : ∀ {vs : List Value} {args : List Value}, RepAll P Γ (vs.map D.val) args → args = vs := by
  intro vs args h
  apply List.ext_getElem?
  intro i
  have hl := h.1
  simp only [List.length_map] at hl
  by_cases hi : i < vs.length
  · have h1 : (vs.map D.val)[i]? = some (.val vs[i]) := by rw [List.getElem?_map, List.getElem?_eq_getElem hi]; rfl
    have h2 : args[i]? = some (args[i]'(by omega)) := List.getElem?_eq_getElem _
    have := rep_val (h.2 i _ _ h1 h2)
    rw [h2, this, List.getElem?_eq_getElem hi]
  · rw [List.getElem?_eq_none (by omega), List.getElem?_eq_none (by omega)]
def invK (P : Program) (name : String) (ds : List D) : Option (TypeId × D) → Option (FuncId × List D)
  | some (t, x) => match eMethod P t x name with
    | some (g, y) => some (g, y :: ds)
    | none => none
  | none => none
@[simp] theorem callOf_invoke (P : Program) (ρ : Operand → D) (r : Operand) (name : String) (args : Array Operand) (ts : Array TypeId) : callOf P ρ ⟨.invoke r name, args, ts⟩ = invK P name (args.toList.map ρ) (ifcOf (ρ r)) := plain _
@[simp] theorem ifcOf_ifc (t : TypeId) (d : D) : ifcOf (.ifc t d) = some (t, d) := rfl
@[simp] theorem invK_some (P : Program) (name : String) (ds : List D) (t : TypeId) (x : D) : invK P name ds (some (t, x)) = (match eMethod P t x name with | some (g, y) => some (g, y :: ds) | none => none) := rfl
/-- Two statements, and what stands behind both under a name. -/
theorem seq2_k {P : Program} {n : Nat} {Q : Exit → PSt → Prop} {st : PSt} {a b c : Code} (h : ∀ K : PSt → Prop, Leads (pwp P n c Q) K → pwp P n a (thenP (pwp P n b (thenP K Q)) Q) st) : pwp P n (.seq a (.seq b c)) Q st :=
  pwp_seq (pwp_mono (h _ fun _ h => h) fun e st q => by
    cases e with
    | normal => exact pwp_seq q
    | _ => exact q)
/-- Of an environment no more is kept than C says. -/
theorem cutE {K : PSt → Prop} {E : Env} {H : Heap} (C : Env → Prop) (hC : C E) (key : ∀ E, C E → K ⟨E, H, []⟩) : K ⟨E, H, []⟩ := key E hC
/-- What is told of MaxLen: its cell holds a number. -/
def MaxIs (H : Heap) (g : Nat) : Prop := ∃ m : Int, H.G g = some [.val (.int .i64 m)]
theorem PCalls.lib {P : Program} {f : FuncId} (hc : ∀ args w, (callFunc f args).run P w = .ok (.enter f args) w) {vs : List Value} {v : Value} {H : Heap} {g : Nat} (hG : MaxIs H g)
    (h : ∀ (m : Int) (w : World), w.cell? ⟨g, 0, none⟩ = some (.int .i64 m) → Calls P f vs.toArray w fun e w' => e = .returned v ∧ Below w.heap.size w w') :
    PCalls P f (vs.map D.val) H fun d H' => d = .val v ∧ H' = H := by
  intro base w0 Γ w args hR hA
  obtain rfl := repAll_vals hA
  obtain ⟨m, hm⟩ := hG
  obtain ⟨u, hk, hr⟩ := hR.glob g _ hm 0 _ rfl
  obtain rfl := rep_val hr
  rw [hc]
  refine Calls.mono (h m w (hR.know _ _ hk).1) ?_
  rintro e w' ⟨rfl, hB⟩
  exact ⟨_, rfl, Γ, H, _, .refl Γ, hR.world (hR.below.trans (Kept.ofBelow hB hR.size)) hB.size (fun b hb => hB.block b hb), .val _, rfl, rfl⟩
/-- The same, where the world stays. -/
theorem PCalls.libW {P : Program} {f : FuncId} (hc : ∀ args w, (callFunc f args).run P w = .ok (.enter f args) w) {vs : List Value} {v : Value} {H : Heap} {g : Nat} (hG : MaxIs H g)
    (h : ∀ (m : Int) (w : World), w.cell? ⟨g, 0, none⟩ = some (.int .i64 m) → Calls P f vs.toArray w fun e w' => e = .returned v ∧ w' = w) :
    PCalls P f (vs.map D.val) H fun d H' => d = .val v ∧ H' = H :=
  PCalls.lib hc hG fun m w hm => (h m w hm).mono fun e w' q => ⟨q.1, q.2 ▸ ⟨rfl, rfl, rfl, Nat.le_refl _, fun _ _ => rfl⟩⟩
def maxG (g : Nat) (m : Int) : Nat → Option (List D) := fun i => if i = g then some [.val (.int .i64 m)] else none
theorem maxG_is (g : Nat) (m : Int) {H : Heap} (h : H.G = maxG g m) : MaxIs H g := ⟨m, by rw [h, maxG, if_pos rfl]⟩
theorem globOf_max {P : Program} {W : World} {g : Nat} {m : Int} (h : W.cell? ⟨g, 0, none⟩ = some (.int .i64 m)) : GlobOf P (ghOf W) (maxG g m) := fun i cs hi j d hd => by
  unfold maxG at hi
  split at hi
  · rename_i e
    subst e
    cases hi
    match j with
    | 0 => cases hd; exact ⟨_, ⟨h, rfl⟩, .val _⟩
    | j + 1 => cases hd
  · cases hi
theorem MaxIs.new {H : Heap} {g : Nat} (h : MaxIs H g) (o : PObj) : MaxIs (H.new o) g := h
theorem MaxIs.put {H : Heap} {g : Nat} (h : MaxIs H g) (i : Nat) (o : Option PObj) : MaxIs (H.put i o) g := h
theorem PCalls.liftM {P : Program} {f : FuncId} {ds : List D} {r : D} {g : Nat} (h : ∀ m, PCalls P f ds (noHeap (maxG g m)) fun d _ => d = r) (hds : ∀ d ∈ ds, Pure d) (hr : Pure r) {H : Heap} (hG : MaxIs H g) :
    PCalls P f ds H fun d H' => d = r ∧ H' = H := by
  obtain ⟨m, hm⟩ := hG
  refine PCalls.liftR (G := maxG g m) (h m) hds (fun d q => q ▸ hr) (fun i cs hi d hd => ?_) (fun i cs hi => ?_)
  · unfold maxG at hi
    split at hi
    · cases hi
      simp only [List.mem_cons, List.mem_nil_iff, or_false] at hd
      subst hd; exact .val _
    · cases hi
  · unfold maxG at hi
    split at hi
    · rename_i e; subst e; cases hi; exact hm
    · cases hi
/-- A text without a sign. -/
def delB (c : UInt8) (l : By) : By := l.filter (· != c)
theorem delB_split (c : UInt8) (p r : By) (h : c ∉ p) : delB c (p ++ c :: r) = p ++ delB c r := by
  have hp : p.filter (· != c) = p := List.filter_eq_self.2 fun a ha => by simp; exact fun e => h (e ▸ ha)
  rw [delB, List.filter_append, hp]
  simp [delB]
theorem first_of (c : UInt8) : ∀ (l : By), c ∈ l → ∃ p r, l = p ++ c :: r ∧ c ∉ p
  | [], h => by cases h
  | x :: l, h => by
    by_cases hx : x = c
    · exact ⟨[], l, by rw [hx]; rfl, by simp⟩
    · have hm' : c ∈ l := by
        rcases List.mem_cons.1 h with q | q
        · exact absurd q.symm hx
        · exact q
      obtain ⟨p, r, e2, hp⟩ := first_of c l hm'
      exact ⟨x :: p, r, by rw [e2]; rfl, by simp [hp]; exact fun q => hx q.symm⟩
theorem replaceK_del (c : UInt8) : ∀ (k : Nat) (l : By), l.count c = k → Lib.replaceK [c] [] k l = delB c l := by
  intro k
  induction k with
  | zero =>
    intro l h
    have : c ∉ l := fun q => by have := List.count_pos_iff.2 q; omega
    rw [Lib.replaceK, delB]
    exact (List.filter_eq_self.2 fun a ha => by simp; exact fun e => this (e ▸ ha)).symm
  | succ k ih =>
    intro l h
    have hm : c ∈ l := List.count_pos_iff.1 (by omega)
    obtain ⟨p, r, rfl, hp⟩ := first_of c l hm
    have hi : Lib.index (p ++ c :: r) [c] = (p.length : Int) := by rw [Lib.index_one]; exact indexByte_at c p r hp
    rw [Lib.replaceK_hit [c] [] k _ p.length hi, delB_split c p r hp]
    have hc : r.count c = k := by
      rw [List.count_append, List.count_cons_self, List.count_eq_zero.2 hp] at h
      omega
    have hd : (p ++ c :: r).drop (p.length + 1) = r := by rw [List.drop_append]; simp
    show List.take p.length (p ++ c :: r) ++ [] ++ Lib.replaceK [c] [] k ((p ++ c :: r).drop (p.length + 1)) = _
    rw [hd, ih r hc]
    simp
theorem replaceAll_del (c : UInt8) (l : By) : Lib.replaceAll l [c] [] = delB c l := by
  unfold Lib.replaceAll Lib.replace
  rw [if_neg (by simp)]
  unfold Lib.replaceNum
  rw [if_pos (.inl (by decide)), Lib.count_one]
  exact replaceK_del c _ l rfl
end Go.Pv
