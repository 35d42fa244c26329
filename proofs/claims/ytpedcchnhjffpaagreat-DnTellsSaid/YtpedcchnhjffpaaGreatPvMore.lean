/- A part of the proof: functions of the program, walked, or what operations come to. -/
import Derived.Test.YtpedcchnhjffpaaGreatPvFz
namespace Go.Pv
open Go.RowKit
/-- A call known in an empty heap, in any other: of what it hands back R is known. -/
theorem PCalls.liftR {P : Program} {f : FuncId} {ds : List D} {R : D → Prop} {G : Nat → Option (List D)} (h : PCalls P f ds (noHeap G) fun d _ => R d) (hds : ∀ d ∈ ds, Pure d) (hr : ∀ d, R d → Pure d) (hP : ∀ g cs, G g = some cs → ∀ d ∈ cs, Pure d)
    {H : Heap} (hG : ∀ g cs, G g = some cs → H.G g = some cs) : PCalls P f ds H fun d H' => R d ∧ H' = H := by
  intro base w0 Γ w args hR hA
  have hlift : ∀ d v, Pure d → Rep P Γ d v → Rep P ⟨Γ.K, fun _ => none⟩ d v := fun d v hp hv => hv.drop _ hp
  have hS : Rel P (protAll w Γ) w ⟨Γ.K, fun _ => none⟩ (noHeap G) w := {
    below := Kept.refl _ _
    size := fun _ h => h
    know := hR.know
    obj := fun i o h => by cases h
    sep := fun i o x h => by cases h
    inj := fun i j o p x y h => by cases h
    fresh := fun i _ => rfl
    glob := fun g cs hg j d hj => by
      obtain ⟨v, hv, hrv⟩ := hR.glob g cs (hG g cs hg) j d hj
      exact ⟨v, hv, hlift _ _ (hP g cs hg d (List.mem_of_getElem? hj)) hrv⟩
    prot := fun _ _ h _ => h }
  refine (h _ w _ w args hS ⟨hA.1, fun i d v hd hv => hlift _ _ (hds d (List.mem_of_getElem? hd)) (hA.2 i d v hd hv)⟩).mono ?_
  rintro u w' ⟨Γ', H', d, x1, x2, x3, x4⟩
  have hin : ∀ a v, Γ'.K a v → a.block < w.heap.size → Γ.K a v := x2.prot
  refine ⟨⟨Γ'.K, Γ.g⟩, H, d, ⟨x1.K, fun _ _ h => h⟩, ?_, x3.drop _ (hr d x4), x4, rfl⟩
  have hle : Γ.le ⟨Γ'.K, Γ.g⟩ := ⟨x1.K, fun _ _ h => h⟩
  exact {
    below := hR.below.trans ⟨x2.below.os, x2.below.tape, x2.below.output, x2.below.size, fun k hk => x2.below.block k (hR.size k hk)⟩
    size := fun k hk => Nat.lt_of_lt_of_le (hR.size k hk) x2.below.size
    know := x2.know
    obj := fun i o hi => by
      obtain ⟨x, hx, h1, h2⟩ := hR.obj i o hi
      exact ⟨x, hx, h1, by rw [x2.below.block x.b (hR.objAt hi hx).2.1]; exact h2.mono hle⟩
    sep := fun i o x hi hx a v k e => by
      have hlt := (hR.objAt hi hx).2.1
      exact hR.sep i o x hi hx a v (hin a v k (by rw [e]; exact hlt)) e
    inj := hR.inj
    fresh := hR.fresh
    glob := hR.glob.mono hle
    prot := fun a v k hs => hR.prot a v (hin a v k (hR.size _ hs)) hs }
/-- What a call hands back, told for good. -/
theorem PCalls.frozenR {P : Program} {f : FuncId} {ds : List D} {H : Heap} {n : Nat} {R : D → Prop} (h : PCalls P f ds H fun d H' => ∃ r, fz P n H' d = some r ∧ R r) : PCalls P f ds H fun d _ => R d := by
  intro base w0 Γ w args hR hA
  refine (h base w0 Γ w args hR hA).mono ?_
  rintro u w' ⟨Γ', H', d, x1, x2, x3, r, x4, x5⟩
  obtain ⟨Γ2, y1, y2, y3⟩ := x2.freezeAll
  exact ⟨Γ2, _, r, x1.trans y1, y2, fz_rep y3 n d r u x4 (x3.mono y1), x5⟩
/-- Some slots turned. -/
def setAll (E : Env) : List (Nat × D) → Env
  | [] => E
  | p :: ps => setAll (E.set p.1 p.2) ps
@[simp] theorem setAll_nil (E : Env) : setAll E [] = E := plain _
@[simp] theorem setAll_cons (E : Env) (p : Nat × D) (ps : List (Nat × D)) : setAll E (p :: ps) = setAll (E.set p.1 p.2) ps := plain _
theorem setAll_rep {P : Program} {Γ : Gh} {a : Go.Act} : ∀ (ts : List (Nat × D)) (E : Env), EnvRep P Γ E a.tmps → (∀ p ∈ ts, p.1 < a.tmps.size → Rep P Γ p.2 (a.tmps.getD p.1 undef)) → EnvRep P Γ (setAll E ts) a.tmps
  | [], E, h, _ => h
  | p :: ps, E, h, hp => by
    refine setAll_rep ps _ ⟨by simpa [Env.set_n] using h.size, fun t ht => ?_⟩ (fun q hq => hp q (by simp [hq]))
    rw [Env.get_set]
    by_cases e : t = p.1
    · subst e
      rw [if_pos rfl, if_pos (by rw [h.size]; exact ht)]
      exact hp p (by simp) ht
    · rw [if_neg e]; exact h.rep t ht
/-- All objects are told for good: none is written to any more. -/
theorem pwp_freeze {P : Program} {n k : Nat} {c : Code} {Q : Exit → PSt → Prop} {E : Env} {H : Heap} {df : List (FuncId × List D)} (ts : List (Nat × D)) (hf : ∀ p ∈ ts, fz P k H (E.get p.1) = some p.2)
    (h : pwp P n c Q ⟨setAll E ts, ⟨.nil, H.nx, H.G⟩, df⟩) : pwp P n c Q ⟨E, H, df⟩ := by
  intro base w0 Γ w a h1 h2 h3
  obtain ⟨Γ2, y1, y2, y3⟩ := h1.freezeAll
  have hE : EnvRep P Γ2 (setAll E ts) a.tmps := setAll_rep ts E (h2.env.mono y1) fun p hp hlt => fz_rep y3 k _ _ _ (hf p hp) ((h2.env.rep p.1 hlt).mono y1)
  refine Code.wp_mono ?_ (h base w0 Γ2 w a y2 ⟨hE, h2.df.mono y1⟩ h3)
  rintro e a' w' hq
  exact hq.le y1
end Go.Pv
namespace Go.Pv
open Go.RowKit
/-- What some slots hold. -/
def slots (E : Env) : List (Nat × D) → Prop
  | [] => True
  | p :: ps => E.get p.1 = p.2 ∧ slots E ps
@[simp] theorem slots_nil (E : Env) : slots E [] = True := propext Iff.rfl
@[simp] theorem slots_cons (E : Env) (p : Nat × D) (ps : List (Nat × D)) : slots E (p :: ps) = (E.get p.1 = p.2 ∧ slots E ps) := propext Iff.rfl
/-- A loop of n rounds. -/
theorem pwp_for {P : Program} {N : Nat} {c : Code} {Q : Exit → PSt → Prop} {st : PSt} (n : Nat) (I : Nat → PSt → Prop) (h0 : I 0 st)
    (step : ∀ k st, k < n → I k st → pwp P N c (thenP (fun st' => I (k + 1) st') Q) st) (last : ∀ st, I n st → pwp P N c (thenP (fun _ => False) Q) st) : pwp P N (.loop c) Q st := by
  refine pwp_loop (fun m st => ∃ k, k ≤ n ∧ m = n - k ∧ I k st) n ⟨0, by omega, by omega, h0⟩ ?_
  rintro m st ⟨k, hk, rfl, hI⟩
  by_cases h : k < n
  · refine pwp_mono (step k st h hI) fun e st' hq => ?_
    cases e with
    | normal => exact ⟨n - (k + 1), by omega, k + 1, by omega, rfl, hq⟩
    | _ => exact hq
  · obtain rfl : k = n := by omega
    refine pwp_mono (last st hI) fun e st' hq => ?_
    cases e with
    | normal => exact hq.elim
    | _ => exact hq
@[simp] theorem eMin2 (k : IntKind) (a b : Int) : eMinMax false 3 [.val (.int k a), .val (.int k b)] = some (.val (.int k (if b < a then b else a))) := by simp [eMinMax]
@[simp] theorem eMax2 (k : IntKind) (a b : Int) : eMinMax true 3 [.val (.int k a), .val (.int k b)] = some (.val (.int k (if a < b then b else a))) := by simp [eMinMax]
/-- What is handed in, told for good; the caller's heap is given up. -/
theorem PCalls.thaw {P : Program} {f : FuncId} {ds ds' : List D} {H : Heap} {k : Nat} {R : D → Heap → Prop} (hf : mapO (fz P k H) ds = some ds') (h : PCalls P f ds' ⟨.nil, H.nx, H.G⟩ R) : PCalls P f ds H R := by
  intro base w0 Γ w args hR hA
  obtain ⟨Γ2, y1, y2, y3⟩ := hR.freezeAll
  have hl := mapO_len hf
  refine (h base w0 Γ2 w args y2 ⟨hl.trans hA.1, fun i d v hd hv => ?_⟩).mono ?_
  · obtain ⟨x, h1, h2⟩ := mapO_get hf i d hd
    exact fz_rep y3 k _ _ _ h2 ((hA.2 i x v h1 hv).mono y1)
  · rintro v w' ⟨Γ', H', d, x1, x2, x3, x4⟩
    exact ⟨Γ', H', d, y1.trans x1, x2, x3, x4⟩
end Go.Pv
