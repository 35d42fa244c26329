/- A part of the proof: functions of the program, walked, or what operations come to. -/
import Derived.Test.YtpedcchnhjffpaaGreatPvTrace
import Derived.Test.YtpedcchnhjffpaaGreatPvUse
namespace Go.Pv
open Go.RowKit
/-! ### Operations whose order is left open, with calls among them -/
def drawOkT (P : Program) (ops : List Oper) : Bool :=
  let ms := masks ops []
  ops.zipIdx.all fun (oi, i) => oi.after.all (fun e => !Region.binds .any e || decide (e.on < i)) && (ops.take i).zipIdx.all fun (oj, j) => (ms.getD i 0).testBit j || free P ops.toArray oi oj
theorem drawOkT_spec {P : Program} {l : List Oper} (h : drawOkT P l = true) {i : Nat} {oi : Oper} (hi : l[i]? = some oi) :
    (∀ e ∈ oi.after, Region.binds .any e = true → e.on < i) ∧ ∀ (j : Nat) oj, j < i → l[j]? = some oj → Reach l j i ∨ free P l.toArray oi oj = true := by
  have hm : (oi, i) ∈ l.zipIdx := by
    rw [List.mem_zipIdx_iff_getElem?]; exact hi
  have := List.all_eq_true.1 h _ hm
  simp only [Bool.and_eq_true] at this
  refine ⟨fun e he hb => ?_, fun j oj hj hoj => ?_⟩
  · have := Array.all_eq_true_iff_forall_mem.1 this.1 e he
    simpa [hb] using this
  · have hm2 : (oj, j) ∈ (l.take i).zipIdx := by
      rw [List.mem_zipIdx_iff_getElem?, List.getElem?_take, if_pos hj]; exact hoj
    have h2 := List.all_eq_true.1 this.2 _ hm2
    simp only [Bool.or_eq_true] at h2
    rcases h2 with h2 | h2
    · exact .inl (masks_spec l l [] (fun j => by simp) (fun k i hb => by simp at hb) i j h2)
    · exact .inr h2
/-- What is listed, all that it must come behind is listed. -/
def Shut (l : List Oper) (listed : Array Bool) : Prop := ∀ (k : Nat) o, l[k]? = some o → listed.getD k false = true → ∀ e ∈ o.after, Region.binds .any e = true → listed.getD e.on false = true
theorem reach_shut {l : List Oper} {listed : Array Bool} (hs : Shut l listed) {j k : Nat} (h : Reach l j k) : listed.getD k false = true → listed.getD j false = true := by
  induction h with
  | one ho he hb => exact fun q => hs _ _ ho q _ he hb
  | more ho he hb h ih => exact fun q => ih (hs _ _ ho q _ he hb)
theorem reach_listed {l : List Oper} {listed : Array Bool} (hs : Shut l listed) {j i : Nat} {oi : Oper} (ho : l[i]? = some oi) (h3 : ∀ e ∈ oi.after, Region.binds .any e = true → listed.getD e.on false = true) (h : Reach l j i) : listed.getD j false = true := by
  cases h with
  | one ho' he hb => rw [ho] at ho'; cases ho'; exact h3 _ he hb
  | more ho' he hb h => rw [ho] at ho'; cases ho'; exact reach_shut hs h (h3 _ he hb)
theorem shut_set {l : List Oper} {listed : Array Bool} (hs : listed.size = l.length) {i : Nat} (hi : i < l.length) {oi : Oper} (ho : l[i]? = some oi) (h3 : ∀ e ∈ oi.after, Region.binds .any e = true → listed.getD e.on false = true) (h : Shut l listed) : Shut l (listed.setIfInBounds i true) := by
  have up : ∀ k, listed.getD k false = true → (listed.setIfInBounds i true).getD k false = true := fun k hk => by
    by_cases e : k = i
    · subst e
      have : k < listed.size := by omega
      simp [this]
    · have e' : i ≠ k := fun q => e q.symm
      simpa [Array.getElem?_setIfInBounds_ne e'] using hk
  intro k o hk hl e he hb
  by_cases q : k = i
  · subst q
    rw [ho] at hk; cases hk
    exact up _ (h3 e he hb)
  · have e' : i ≠ k := fun x => q x.symm
    have : listed.getD k false = true := by simpa [Array.getElem?_setIfInBounds_ne e'] using hl
    exact up _ (h k o hk this e he hb)
section
variable {P : Program} {base : Prot} {w0 : World} {n : Nat}
theorem drawT_sound {l : List Oper} (hok : drawOkT P l = true) {Γ0 : Gh} {Q : Exit → PSt → Prop} : ∀ (fuel : Nat) (listed : Array Bool) (rem : List Nat), listed.size = l.length →
    (∀ i, i ∈ rem ↔ i < l.length ∧ listed.getD i true = false) → rem.Pairwise (· < ·) → rem.length ≤ fuel → Shut l listed →
    ∀ {st : PSt} {Γ : Gh} {w : World} {a : Act}, Γ0.le Γ → Rel P base w0 Γ st.H w → StRep P Γ st a → a.tmps.size = n → plist P l.toArray (fun st' => Q .normal st') rem st →
    wpAny P .any l.toArray (Post P base w0 Γ0 n Q) fuel listed a w := by
  intro fuel
  have hready : ∀ (listed : Array Bool) (i : Nat), i ∈ Region.ready .any l.toArray listed ↔ i < l.length ∧ listed.getD i true = false ∧ ∃ oi, l[i]? = some oi ∧ ∀ e ∈ oi.after, Region.binds .any e = true → listed.getD e.on false = true := by
    intro listed i
    simp only [Region.ready, List.mem_filter, List.mem_range, List.size_toArray, Bool.and_eq_true, Bool.not_eq_true']
    constructor
    · rintro ⟨h1, h2, h3⟩
      refine ⟨h1, h2, l[i], List.getElem?_eq_getElem h1, fun e he hb => ?_⟩
      have : (l.toArray[i]?) = some l[i] := by simp [h1]
      rw [this] at h3
      simp only [Option.map_some, Option.getD_some] at h3
      have := Array.all_eq_true_iff_forall_mem.1 h3 e he
      rw [hb] at this
      simpa using this
    · rintro ⟨h1, h2, oi, ho, h3⟩
      refine ⟨h1, h2, ?_⟩
      have : (l.toArray[i]?) = some oi := by simpa using ho
      rw [this]
      simp only [Option.map_some, Option.getD_some]
      refine Array.all_eq_true_iff_forall_mem.2 fun e he => ?_
      cases hb : Region.binds .any e
      · rfl
      · simp [h3 e he hb]
  have hnil : ∀ (listed : Array Bool) (rem : List Nat), listed.size = l.length → (∀ i, i ∈ rem ↔ i < l.length ∧ listed.getD i true = false) → rem.Pairwise (· < ·) → Region.ready .any l.toArray listed = [] → rem = [] := by
    intro listed rem hs hrem hp hr
    cases rem with
    | nil => rfl
    | cons r rest =>
      exfalso
      obtain ⟨r1, r2⟩ := (hrem r).1 (by simp)
      have : r ∈ Region.ready .any l.toArray listed := by
        refine (hready listed r).2 ⟨r1, r2, l[r], List.getElem?_eq_getElem r1, fun e he hb => ?_⟩
        have hlt := (drawOkT_spec hok (List.getElem?_eq_getElem r1)).1 e he hb
        have hnot : e.on ∉ r :: rest := by
          intro hm
          rcases List.mem_cons.1 hm with h | h
          · omega
          · have := List.rel_of_pairwise_cons hp h; omega
        have hne : ¬ (e.on < l.length ∧ listed.getD e.on true = false) := fun q => hnot ((hrem _).2 q)
        have hlt2 : e.on < listed.size := by omega
        have : listed.getD e.on true = true := by
          cases hq : listed.getD e.on true
          · exact absurd ⟨by omega, hq⟩ hne
          · rfl
        simpa [hlt2] using this
      rw [hr] at this
      simp at this
  induction fuel with
  | zero =>
    intro listed rem hs hrem hp hl hsh st Γ w a h0 hR hE hn hK
    have hr : rem = [] := List.eq_nil_of_length_eq_zero (by omega)
    subst hr
    refine ⟨?_, st, Γ, h0, hR, hE, hn, hK⟩
    apply List.eq_nil_iff_forall_not_mem.2
    intro i hi
    obtain ⟨h1, h2, _⟩ := (hready listed i).1 hi
    have := (hrem i).2 ⟨h1, h2⟩
    simp at this
  | succ fuel ih =>
    intro listed rem hs hrem hp hl hsh st Γ w a h0 hR hE hn hK
    refine ⟨fun hr => ?_, fun i hi => ?_⟩
    · obtain rfl := hnil listed rem hs hrem hp hr
      exact ⟨st, Γ, h0, hR, hE, hn, hK⟩
    · obtain ⟨h1, h2, oi, ho, h3⟩ := (hready listed i).1 hi
      have himem : i ∈ rem := (hrem i).2 ⟨h1, h2⟩
      obtain ⟨pre, post, rfl⟩ := List.append_of_mem himem
      have ho' : l.toArray[i]? = some oi := by simpa using ho
      have hpre : ∀ j ∈ pre, ∃ oj, l.toArray[j]? = some oj ∧ free P l.toArray oi oj = true := by
        intro j hj
        have hji : j < i := by
          have := (List.pairwise_append.1 hp).2.2 j hj i (by simp)
          exact this
        have hjr := (hrem j).1 (by simp [hj])
        refine ⟨l[j]'hjr.1, by simp [hjr.1], ?_⟩
        rcases (drawOkT_spec hok ho).2 j _ hji (List.getElem?_eq_getElem hjr.1) with h | h
        · have h4 := reach_listed hsh ho h3 h
          have hlt : j < listed.size := by omega
          have h5 : listed.getD j true = false := hjr.2
          simp [hlt] at h4 h5
          rw [h4] at h5; cases h5
        · exact h
      have hone : pone P l.toArray oi (plist P l.toArray (fun st' => Q .normal st') (pre ++ post)) st := by
        by_cases hk : kindOf P oi < 2
        · obtain ⟨d, hd'⟩ := extract ho' hk pre hpre hR hE hK
          exact (hd' st _ (fun _ _ => rfl) (fun _ _ _ => rfl) (.inr rfl)).1 (push ho' hk pre hpre hd' hK)
        · exact front ho' hk pre hpre hK
      have hnd : (pre ++ i :: post).Nodup := hp.imp (fun h => Nat.ne_of_lt h)
      have hrem' : ∀ k, k ∈ pre ++ post ↔ k < l.length ∧ (listed.setIfInBounds i true).getD k true = false := by
        intro k
        have h5 := hrem k
        by_cases e : k = i
        · subst e
          have hnot : k ∉ pre ++ post := by
            rw [List.nodup_append] at hnd
            simp only [List.nodup_cons] at hnd
            intro hm
            rcases List.mem_append.1 hm with h | h
            · exact hnd.2.2 k h k (by simp) rfl
            · exact hnd.2.1.1 h
          have hlt : k < listed.size := by omega
          simp [hlt] at hnot ⊢
          exact hnot
        · have e1 : k ∈ pre ++ post ↔ k ∈ pre ++ i :: post := by simp [e]
          have e' : i ≠ k := fun q => e q.symm
          rw [e1, h5]
          simp [Array.getElem?_setIfInBounds_ne e']
      have hp' : (pre ++ post).Pairwise (· < ·) := hp.sublist (List.Sublist.append_left (List.sublist_cons_self i post) pre)
      have hs := step_sound (next := wpAny P .any l.toArray (Post P base w0 Γ0 n Q) fuel (listed.setIfInBounds i true)) (Q' := Post P base w0 Γ0 n Q) hR hE hone
        (fun st' Γ' w' a' hle hR' hE' hs' hk' => ih (listed.setIfInBounds i true) (pre ++ post) (by simpa using hs) hrem' hp' (by simp at hl ⊢; omega) (shut_set hs h1 ho h3 hsh) (h0.trans hle) hR' hE' (hs'.trans hn) hk')
      unfold wpOp
      rw [ho']
      simp only
      split
      · rename_i hw; rw [if_pos hw] at hs; exact .inl hs
      · rename_i hw; rw [if_neg hw] at hs; exact hs


theorem pwp_region_drawT (hm : P.follows .mixedOrders = true) {id : Nat} {l : List Oper} {st : PSt} {Q : Exit → PSt → Prop} (hok : drawOkT P l = true) (h : pops P l.toArray l (fun st' => Q .normal st') st) :
    pwp P n (.region id l.toArray true) Q st := by
  intro base w0 Γ w a h1 h2 h3
  refine wp_region_any hm ?_
  have hR : Rel P base w0 Γ st.H { w with drawn := w.drawn + 1 } := h1.drew
  have hsz : l.toArray.size = l.length := by simp
  rw [hsz]
  refine drawT_sound hok l.length (Array.replicate l.length false) (List.range' 0 l.length) (by simp) (fun i => ?_) ?_ (by simp) ?_ (.refl Γ) hR h2 h3 (plist_range P l.toArray _ l 0 st (by simp) h)
  · by_cases e : i < l.length
    · simp [e]
    · simp [e]
  · exact List.pairwise_lt_range'
  · intro k o hk hl
    exfalso
    have : k < l.length := (List.getElem?_eq_some_iff.1 hk).1
    simp [this] at hl
theorem region_drawT_k {Q : Exit → PSt → Prop} {st : PSt} (hm : P.follows .mixedOrders = true) {id : Nat} {ops : List Oper} (hok : drawOkT P ops = true)
    (h : ∀ K : PSt → Prop, Leads (fun st => Q .normal st) K → pops P ops.toArray ops K st) : pwp P n (.region id ops.toArray true) Q st :=
  pwp_region_drawT hm hok (h _ fun _ h => h)
end
end Go.Pv
