/- A part of the proof: functions of the program, walked, or what operations come to. -/
import Derived.Test.YtmaajijhfpdefaaPvEval
namespace Go.Pv
open Go.RowKit
/-! ### A region whose order is open, walked with symbolic values -/
def openReads (P : Program) (l : List Oper) : List (Nat × Nat) :=
  let ms := masks l []
  l.zipIdx.flatMap fun (ok, k) => if kindOf P ok = 1 then (l.zipIdx.filter fun (oi, i) => !decide (kindOf P oi < 2) && (if i < k then !(ms.getD k 0).testBit i else decide (k < i) && !(ms.getD i 0).testBit k)).map fun (oi, i) => (k, i) else []
def noOracle : Oracle := fun _ _ _ => none
theorem good_none {P : Program} : Good P noOracle := fun _ _ _ _ _ h => by cases h
theorem openReads_mem {P : Program} {l : List Oper} {k i : Nat} {ok oi : Oper} (hk : l[k]? = some ok) (hi : l[i]? = some oi) (h1 : kindOf P ok = 1) (h2 : ¬ kindOf P oi < 2) (h : (i < k ∧ ((masks l []).getD k 0).testBit i = false) ∨ (k < i ∧ ((masks l []).getD i 0).testBit k = false)) : (k, i) ∈ openReads P l := by
  unfold openReads
  simp only [List.mem_flatMap]
  refine ⟨(ok, k), by rw [List.mem_zipIdx_iff_getElem?]; exact hk, ?_⟩
  simp only [h1, if_true, List.mem_map, List.mem_filter]
  refine ⟨(oi, i), ⟨by rw [List.mem_zipIdx_iff_getElem?]; exact hi, ?_⟩, rfl⟩
  simp only [Bool.and_eq_true, Bool.not_eq_true', decide_eq_false_iff_not]
  refine ⟨h2, ?_⟩
  rcases h with ⟨a, b⟩ | ⟨a, b⟩
  · rw [if_pos a, b]; rfl
  · rw [if_neg (by omega), b]; simp [a]
theorem pwp_region_sym {P : Program} (hm : P.follows .mixedOrders = true) {l : List Oper} {st : PSt} {tr : List PSt} {id n : Nat} {Q : Exit → PSt → Prop} {pairs : List (Nat × Nat)} (hok : (backOk l && traceOk P l (masks l [])) = true) (htr : evTrace noOracle P l.toArray l st = some tr)
    (hp : openReads P l = pairs) (hre : ∀ x ∈ pairs, ∀ o, l[x.1]? = some o → valueAt P l.toArray o ((st :: tr).getD x.1 st) = valueAt P l.toArray o { (st :: tr).getD x.1 st with H := ((st :: tr).getD (if x.2 < x.1 then x.2 else x.2 + 1) st).H })
    (hQ : Q .normal ((st :: tr).getD l.length st)) : pwp P n (.region id l.toArray true) Q st := by
  obtain ⟨hb, ht⟩ := Bool.and_eq_true_iff.1 hok
  have hg : Good P noOracle := good_none
  have hspec := evTrace_spec l st tr htr
  generalize hs : (fun k => (st :: tr).getD k st) = s
  have hs' : ∀ k, (st :: tr).getD k st = s k := fun k => by rw [← hs]
  simp only [hs'] at hspec hQ hre
  have hms := masks_spec l l [] (fun j => by simp) (fun k i hb => by simp at hb)
  have hre' : ∀ (i k : Nat) oi ok, l[i]? = some oi → l[k]? = some ok → ¬ kindOf P oi < 2 → kindOf P ok < 2 → (i < k ∧ ¬ Reach l i k → StepsTo P l.toArray ok { s k with H := (s i).H } { s (k + 1) with H := (s i).H }) ∧
      (k < i ∧ ¬ Reach l k i → StepsTo P l.toArray ok { s k with H := (s (i + 1)).H } { s (k + 1) with H := (s (i + 1)).H }) := by
    intro i k oi ok hi hk hki hkk
    obtain ⟨d, hd, hst⟩ := valueAt_of (call := noOracle) hkk (hspec k ok hk)
    have go : ∀ H, valueAt P l.toArray ok { s k with H := H } = some d → StepsTo P l.toArray ok { s k with H := H } { s (k + 1) with H := H } := by
      intro H hv
      have h1 := valueAt_step hkk hv
      have : ({ s (k + 1) with H := H } : PSt) = ({ s k with H := H } : PSt).put ok.dst d := by rw [hst]; cases ok.dst <;> rfl
      rw [this]; exact h1
    by_cases h0 : kindOf P ok = 0
    · exact ⟨fun _ => go _ (valueAt_zero h0 hd _), fun _ => go _ (valueAt_zero h0 hd _)⟩
    · have h1 : kindOf P ok = 1 := by omega
      refine ⟨fun ⟨hik, hr⟩ => ?_, fun ⟨hki', hr⟩ => ?_⟩
      · have hb1 : ((masks l []).getD k 0).testBit i = false := by
          cases hq : ((masks l []).getD k 0).testBit i
          · rfl
          · exact absurd (hms k i hq) hr
        have := hre (k, i) (hp ▸ openReads_mem hk hi h1 hki (.inl ⟨hik, hb1⟩)) ok hk
        simp only [hik, if_true] at this
        exact go _ (this ▸ hd)
      · have hb1 : ((masks l []).getD i 0).testBit k = false := by
          cases hq : ((masks l []).getD i 0).testBit k
          · rfl
          · exact absurd (hms i k hq) hr
        have := hre (k, i) (hp ▸ openReads_mem hk hi h1 hki (.inr ⟨hki', hb1⟩)) ok hk
        simp only [show ¬ i < k by omega, if_false] at this
        exact go _ (this ▸ hd)
  have hT : Trace P l s := {
    back := fun k o hk e he hbb => by
      have hm1 : (o, k) ∈ l.zipIdx := by rw [List.mem_zipIdx_iff_getElem?]; exact hk
      have := List.all_eq_true.1 hb _ hm1
      simp only at this
      have h2 := Array.all_eq_true_iff_forall_mem.1 this e he
      simpa [hbb] using h2
    led := fun k o hk => evStep_led (hspec k o hk)
    step := fun k o hk => evStep_sound hg (hspec k o hk)
    order := fun i j oi oj hi hj hji => traceOk_spec ht rfl hi hj hji
    early := fun i k oi ok hi hk hik h1 h2 h3 => (hre' i k oi ok hi hk h1 h2).1 ⟨hik, h3⟩
    late := fun i k oi ok hi hk hki h1 h2 h3 => (hre' i k oi ok hi hk h1 h2).2 ⟨hki, h3⟩ }
  have h0 : s 0 = st := by rw [← hs' 0]; rfl
  have := pwp_region_trace (P := P) (l := l) (s := s) hm (id := id) (n := n) (Q := Q) hT hQ
  rwa [h0] at this
end Go.Pv
