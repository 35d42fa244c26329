/- A part of the proof: functions of the program, walked, or what operations come to. -/
import Derived.Test.YtpedcchnhjffpaaGreatPvSh
namespace Go.Pv
open Go.RowKit
/-- A contract of the library that asks for nothing, as a call of mine. -/
theorem PCalls.lib0 {P : Program} {f : FuncId} (hc : ∀ args w, (callFunc f args).run P w = .ok (.enter f args) w) {vs : List Value} {v : Value} {d : D}
    (h : ∀ (w : World), Calls P f vs.toArray w fun e w' => e = .returned v ∧ Below w.heap.size w w') (hr : ∀ Γ, Rep P Γ d v) (H : Heap) :
    PCalls P f (vs.map D.val) H fun d' H' => d' = d ∧ H' = H := by
  intro base w0 Γ w args hR hA
  obtain rfl := repAll_vals hA
  rw [hc]
  refine Calls.mono (h w) ?_
  rintro e w' ⟨rfl, hB⟩
  exact ⟨_, rfl, Γ, H, _, .refl Γ, hR.world (hR.below.trans (Kept.ofBelow hB hR.size)) hB.size (fun b hb => hB.block b hb), hr Γ, rfl, rfl⟩
/-- The same, where MaxLen's cell must be told. -/
theorem PCalls.libD {P : Program} {f : FuncId} (hc : ∀ args w, (callFunc f args).run P w = .ok (.enter f args) w) {vs : List Value} {v : Value} {d : D} {H : Heap} {g : Nat} (hG : MaxIs H g)
    (h : ∀ (m : Int) (w : World), w.cell? ⟨g, 0, none⟩ = some (.int .i64 m) → Calls P f vs.toArray w fun e w' => e = .returned v ∧ Below w.heap.size w w') (hr : ∀ Γ, Rep P Γ d v) :
    PCalls P f (vs.map D.val) H fun d' H' => d' = d ∧ H' = H := by
  intro base w0 Γ w args hR hA
  obtain rfl := repAll_vals hA
  obtain ⟨m, hm⟩ := hG
  obtain ⟨u, hk, hu⟩ := hR.glob g _ hm 0 _ rfl
  obtain rfl := rep_val hu
  rw [hc]
  refine Calls.mono (h m w (hR.know _ _ hk).1) ?_
  rintro e w' ⟨rfl, hB⟩
  exact ⟨_, rfl, Γ, H, _, .refl Γ, hR.world (hR.below.trans (Kept.ofBelow hB hR.size)) hB.size (fun b hb => hB.block b hb), hr Γ, rfl, rfl⟩
theorem below_drawn {w w' : World} (h1 : w'.heap = w.heap) (h2 : w'.os = w.os) (h3 : w'.tape = w.tape) (h4 : w'.output = w.output) : Below w.heap.size w w' :=
  ⟨h2, h3, h4, by rw [h1]; exact Nat.le_refl _, fun _ _ => by rw [h1]⟩
/-! ### A call that is handed own rows as read-only values, and leaves all as it was -/
def flatB : D → Bool
  | .val _ => true
  | .tup cs => cs.all fun d => match d with | .val _ => true | _ => false
  | .agg cs => cs.all fun d => match d with | .val _ => true | _ => false
  | _ => false
theorem isVal_of {d : D} (h : (match d with | .val _ => true | _ => false) = true) : ∃ v, d = .val v := by
  cases d <;> first | exact ⟨_, rfl⟩ | cases h
theorem flat_rep {P : Program} {Γ Γ' : Gh} {d : D} {v : Value} (hd : flatB d = true) (h : Rep P Γ d v) : Rep P Γ' d v := by
  cases h with
  | val v => exact .val v
  | agg cs vs hl hr =>
    refine .agg cs vs hl fun i d u h1 h2 => ?_
    obtain ⟨x, rfl⟩ := isVal_of (List.all_eq_true.1 hd d (List.mem_of_getElem? h1))
    obtain rfl := rep_val (hr i _ _ h1 h2)
    exact .val _
  | tup cs vs hl hr =>
    refine .tup cs vs hl fun i d u h1 h2 => ?_
    obtain ⟨x, rfl⟩ := isVal_of (List.all_eq_true.1 hd d (List.mem_of_getElem? h1))
    obtain rfl := rep_val (hr i _ _ h1 h2)
    exact .val _
  | _ => cases hd
theorem PCalls.aside {P : Program} {f : FuncId} {ds ds' : List D} {H : Heap} {k : Nat} {R : D → Prop} (hf : mapO (fz P k H) ds = some ds') (h : PCalls P f ds' ⟨.nil, H.nx, H.G⟩ fun d _ => R d) (hr : ∀ d, R d → flatB d = true) :
    PCalls P f ds H fun d H' => R d ∧ H' = H := by
  intro base w0 Γ w args hR hA
  obtain ⟨Γ2, y1, y2, y3⟩ := hR.freezeAll
  have hl := mapO_len hf
  have hS : Rel P (protAll w Γ2) w Γ2 ⟨.nil, H.nx, H.G⟩ w := {
    below := Kept.refl _ _
    size := fun _ h => h
    know := y2.know
    obj := fun i o h => by cases h
    sep := fun i o x h => by cases h
    inj := fun i j o p x y h => by cases h
    fresh := y2.fresh
    glob := y2.glob
    prot := fun _ _ h _ => h }
  refine (h _ w Γ2 w args hS ⟨hl.trans hA.1, fun i d v hd hv => ?_⟩).mono ?_
  · obtain ⟨x, h1, h2⟩ := mapO_get hf i d hd
    exact fz_rep y3 k _ _ _ h2 ((hA.2 i x v h1 hv).mono y1)
  · rintro v w' ⟨Γ', H', d, x1, x2, x3, x4⟩
    refine ⟨Γ, H, d, .refl Γ, ?_, flat_rep (hr d x4) x3, x4, rfl⟩
    exact hR.world (hR.below.trans ⟨x2.below.os, x2.below.tape, x2.below.output, x2.below.size, fun k hk => x2.below.block k (hR.size k hk)⟩) x2.below.size (fun b hb => x2.below.block b hb)
theorem PCalls.liftMR {P : Program} {f : FuncId} {ds : List D} {R : D → Prop} {g : Nat} (h : ∀ m, PCalls P f ds (noHeap (maxG g m)) fun d _ => R d) (hds : ∀ d ∈ ds, Pure d) (hr : ∀ d, R d → Pure d) {H : Heap} (hG : MaxIs H g) :
    PCalls P f ds H fun d H' => R d ∧ H' = H := by
  obtain ⟨m, hm⟩ := hG
  refine PCalls.liftR (G := maxG g m) (h m) hds hr (fun i cs hi d hd => ?_) (fun i cs hi => ?_)
  · unfold maxG at hi
    split at hi
    · cases hi
      simp only [List.mem_cons, List.mem_nil_iff, or_false] at hd
      subst hd; exact .val _
    · cases hi
  · unfold maxG at hi
    split at hi
    · rename_i e; subst e; cases hi; exact hm
    · cases hi
end Go.Pv
