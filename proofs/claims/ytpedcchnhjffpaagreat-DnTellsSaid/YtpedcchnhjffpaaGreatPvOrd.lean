/- A part of the proof: functions of the program, walked, or what operations come to. -/
import Derived.Test.YtpedcchnhjffpaaGreatPvDrawT
namespace Go.Pv
open Go.RowKit
/-! ### A region whose effects come in one of several orders: each order is walked -/
def isK2 (P : Program) (l : List Oper) (i : Nat) : Bool := match l[i]? with
  | some o => !decide (kindOf P o < 2)
  | none => false
def cover (P : Program) (l : List Oper) (ms : List Nat) (F : List (List Nat)) : Nat → List Nat → Bool
  | 0, _ => false
  | n + 1, π => F.any (fun p => π.isPrefixOf (p.filter (isK2 P l))) && (List.range l.length).all fun i =>
      !isK2 P l i || π.contains i || (List.range l.length).any (fun j => isK2 P l j && (ms.getD i 0).testBit j && !π.contains j) || cover P l ms F n (π ++ [i])
def pairOk (P : Program) (l : List Oper) (ms : List Nat) (j i : Nat) : Bool := (ms.getD i 0).testBit j || (isK2 P l i && isK2 P l j) || match l[i]?, l[j]? with
  | some oi, some oj => free P l.toArray oi oj
  | _, _ => false
def pairsOk (P : Program) (l : List Oper) (ms : List Nat) : List Nat → Bool
  | [] => true
  | j :: p => p.all (fun i => pairOk P l ms j i) && pairsOk P l ms p
def ordersOk (P : Program) (l : List Oper) (F : List (List Nat)) : Bool :=
  let ms := masks l []
  l.all (fun o => (isCall o.op).isNone) && l.zipIdx.all (fun (o, k) => o.after.all fun e => decide (e.on < k)) &&
    F.all (fun p => decide p.Nodup && p.all (fun i => decide (i < l.length)) && (List.range l.length).all (fun i => p.contains i) && pairsOk P l ms p) && cover P l ms F (l.length + 1) []
theorem pairsOk_pw {P : Program} {l : List Oper} {ms : List Nat} : ∀ {p : List Nat}, pairsOk P l ms p = true → p.Pairwise fun j i => pairOk P l ms j i = true
  | [], _ => .nil
  | j :: p, h => by
    simp only [pairsOk, Bool.and_eq_true] at h
    exact .cons (fun i hi => List.all_eq_true.1 h.1 i hi) (pairsOk_pw h.2)
/-- What all of some continuations need of one operation that calls nothing. -/
theorem pone_all {P : Program} {ops : Array Oper} {o : Oper} {ι : Type} {S : ι → Prop} {K : ι → PSt → Prop} {st : PSt} (hc : isCall o.op = none) (x0 : ι) (h0 : S x0) (h : ∀ x, S x → pone P ops o (K x) st) : pone P ops o (fun st' => ∀ x, S x → K x st') st := by
  unfold pone at *
  have key : ∀ (x : ι), S x → popS P o st (K x) → popS P o st (fun st' => ∀ x, S x → popS P o st (K x) → K x st') := fun x hx hp => by
    unfold popS at hp ⊢
    rw [hc] at hp ⊢
    simp only at hp ⊢
    cases he : eStep P o st with
    | none => rw [he] at hp; exact hp.elim
    | some st' =>
      simp only
      intro y hy hq
      exact hq
  cases hg : o.guard with
  | none =>
    have go : ∀ K : PSt → Prop, pops P ops [o] K st = popS P o st K := fun K => by simp only [pops, hg]
    have h' : ∀ x, S x → popS P o st (K x) := fun x hx => by have := h x hx; rwa [go] at this
    rw [go]
    exact popS_mono (fun st' q x hx => q x hx (h' x hx)) (key x0 h0 (h' x0 h0))
  | some jb =>
    obtain ⟨j, b⟩ := jb
    cases hgd : guardD ops st j with
    | none =>
      have := h x0 h0
      simp only [pops, hg, hgd] at this
    | some r =>
      cases r with
      | none =>
        simp only [pops, hg, hgd] at h ⊢
        exact h
      | some b' =>
        by_cases hb : b' = b
        · have go : ∀ K : PSt → Prop, pops P ops [o] K st = popS P o st K := fun K => by simp only [pops, hg, hgd, hb, if_true]
          have h' : ∀ x, S x → popS P o st (K x) := fun x hx => by have := h x hx; rwa [go] at this
          rw [go]
          exact popS_mono (fun st' q x hx => q x hx (h' x hx)) (key x0 h0 (h' x0 h0))
        · simp only [pops, hg, hgd, hb, if_false] at h ⊢
          exact h
section
variable {P : Program} {base : Prot} {w0 : World} {n : Nat}
theorem drawE_sound {l : List Oper} {F : List (List Nat)} (hok : ordersOk P l F = true) {Γ0 : Gh} {Q : Exit → PSt → Prop} : ∀ (fuel : Nat) (listed : Array Bool) (rem π : List Nat), listed.size = l.length →
    (∀ i, i ∈ rem ↔ i < l.length ∧ listed.getD i true = false) → rem.Pairwise (· < ·) → rem.length ≤ fuel → Shut l listed → (∀ i, i ∈ π ↔ isK2 P l i = true ∧ listed.getD i false = true) → (∃ m, cover P l (masks l []) F m π = true) →
    ∀ {st : PSt} {Γ : Gh} {w : World} {a : Act}, Γ0.le Γ → Rel P base w0 Γ st.H w → StRep P Γ st a → a.tmps.size = n →
    (∀ p ∈ F, π <+: p.filter (isK2 P l) → plist P l.toArray (fun st' => Q .normal st') (p.filter fun i => !listed.getD i true) st) →
    wpAny P .any l.toArray (Post P base w0 Γ0 n Q) fuel listed a w := by
  intro fuel
  simp only [ordersOk, Bool.and_eq_true] at hok
  obtain ⟨⟨⟨hcalls, hedge⟩, hF⟩, -⟩ := hok
  have hmask := masks_spec l l [] (fun j => by simp) (fun k i hb => by simp at hb)
  have hedge' : ∀ (i : Nat) oi, l[i]? = some oi → ∀ e ∈ oi.after, e.on < i := fun i oi hi e he => by
    have hm : (oi, i) ∈ l.zipIdx := by rw [List.mem_zipIdx_iff_getElem?]; exact hi
    have := Array.all_eq_true_iff_forall_mem.1 (List.all_eq_true.1 hedge _ hm) e he
    simpa using this
  have hP : ∀ p ∈ F, p.Nodup ∧ (∀ i ∈ p, i < l.length) ∧ (∀ i, i < l.length → i ∈ p) ∧ p.Pairwise fun j i => pairOk P l (masks l []) j i = true := fun p hp => by
    have := List.all_eq_true.1 hF p hp
    simp only [Bool.and_eq_true] at this
    obtain ⟨⟨⟨h1, h2⟩, h3⟩, h4⟩ := this
    refine ⟨by simpa using h1, fun i hi => by simpa using List.all_eq_true.1 h2 i hi, fun i hi => ?_, pairsOk_pw h4⟩
    have := List.all_eq_true.1 h3 i (List.mem_range.2 hi)
    simpa using this
  have hready : ∀ (listed : Array Bool) (i : Nat), i ∈ Region.ready .any l.toArray listed ↔ i < l.length ∧ listed.getD i true = false ∧ ∃ oi, l[i]? = some oi ∧ ∀ e ∈ oi.after, Region.binds .any e = true → listed.getD e.on false = true := by
    intro listed i
    simp only [Region.ready, List.mem_filter, List.mem_range, List.size_toArray, Bool.and_eq_true, Bool.not_eq_true']
    constructor
    · rintro ⟨h1, h2, h3⟩
      refine ⟨h1, h2, l[i], List.getElem?_eq_getElem h1, fun e he hb => ?_⟩
      have : (l.toArray[i]?) = some l[i] := by simp [h1]
      rw [this] at h3
      simp only [Option.map_some, Option.getD_some] at h3
      have := Array.all_eq_true_iff_forall_mem.1 h3 e he
      rw [hb] at this
      simpa using this
    · rintro ⟨h1, h2, oi, ho, h3⟩
      refine ⟨h1, h2, ?_⟩
      have : (l.toArray[i]?) = some oi := by simpa using ho
      rw [this]
      simp only [Option.map_some, Option.getD_some]
      refine Array.all_eq_true_iff_forall_mem.2 fun e he => ?_
      cases hb : Region.binds .any e
      · rfl
      · simp [h3 e he hb]
  have hnil : ∀ (listed : Array Bool) (rem : List Nat), listed.size = l.length → (∀ i, i ∈ rem ↔ i < l.length ∧ listed.getD i true = false) → rem.Pairwise (· < ·) → Region.ready .any l.toArray listed = [] → rem = [] := by
    intro listed rem hs hrem hp hr
    cases rem with
    | nil => rfl
    | cons r rest =>
      exfalso
      obtain ⟨r1, r2⟩ := (hrem r).1 (by simp)
      have : r ∈ Region.ready .any l.toArray listed := by
        refine (hready listed r).2 ⟨r1, r2, l[r], List.getElem?_eq_getElem r1, fun e he hb => ?_⟩
        have hlt := hedge' r _ (List.getElem?_eq_getElem r1) e he
        have hnot : e.on ∉ r :: rest := by
          intro hm
          rcases List.mem_cons.1 hm with h | h
          · omega
          · have := List.rel_of_pairwise_cons hp h; omega
        have hne : ¬ (e.on < l.length ∧ listed.getD e.on true = false) := fun q => hnot ((hrem _).2 q)
        have hlt2 : e.on < listed.size := by omega
        have : listed.getD e.on true = true := by
          cases hq : listed.getD e.on true
          · exact absurd ⟨by omega, hq⟩ hne
          · rfl
        simpa [hlt2] using this
      rw [hr] at this
      simp at this
  have hdone : ∀ (listed : Array Bool) (rem π : List Nat) (st : PSt), (∀ i, i ∈ rem ↔ i < l.length ∧ listed.getD i true = false) → rem = [] → (∃ m, cover P l (masks l []) F m π = true) →
      (∀ p ∈ F, π <+: p.filter (isK2 P l) → plist P l.toArray (fun st' => Q .normal st') (p.filter fun i => !listed.getD i true) st) → Q .normal st := by
    rintro listed rem π st hrem rfl ⟨m, hm⟩ hK
    cases m with
    | zero => cases hm
    | succ m =>
      simp only [cover, Bool.and_eq_true] at hm
      obtain ⟨p, hp, hpre⟩ := List.any_eq_true.1 hm.1
      have := hK p hp (List.isPrefixOf_iff_prefix.1 hpre)
      have he : (p.filter fun i => !listed.getD i true) = [] := by
        rw [List.filter_eq_nil_iff]
        intro i hi hq
        have := (hrem i).2 ⟨(hP p hp).2.1 i hi, by simpa using hq⟩
        simp at this
      rw [he] at this
      exact this
  induction fuel with
  | zero =>
    intro listed rem π hs hrem hp hl hsh hπ hcov st Γ w a h0 hR hE hn hK
    have hr : rem = [] := List.eq_nil_of_length_eq_zero (by omega)
    refine ⟨?_, st, Γ, h0, hR, hE, hn, hdone listed rem π st hrem hr hcov hK⟩
    subst hr
    apply List.eq_nil_iff_forall_not_mem.2
    intro i hi
    obtain ⟨h1, h2, _⟩ := (hready listed i).1 hi
    have := (hrem i).2 ⟨h1, h2⟩
    simp at this
  | succ fuel ih =>
    intro listed rem π hs hrem hp hl hsh hπ hcov st Γ w a h0 hR hE hn hK
    refine ⟨fun hr => ?_, fun i hi => ?_⟩
    · exact ⟨st, Γ, h0, hR, hE, hn, hdone listed rem π st hrem (hnil listed rem hs hrem hp hr) hcov hK⟩
    · obtain ⟨h1, h2, oi, ho, h3⟩ := (hready listed i).1 hi
      have himem : i ∈ rem := (hrem i).2 ⟨h1, h2⟩
      have ho' : l.toArray[i]? = some oi := by simpa using ho
      have hlt : i < listed.size := by omega
      have h2' : listed.getD i false = false := by simpa [hlt] using h2
      -- what stands ahead of i in an order
      have hsplit : ∀ p ∈ F, ∃ pre post, (p.filter fun k => !listed.getD k true) = pre ++ i :: post ∧ (p.filter fun k => !(listed.setIfInBounds i true).getD k true) = pre ++ post ∧ i ∉ pre ∧
          ∀ j ∈ pre, j < l.length ∧ listed.getD j true = false ∧ pairOk P l (masks l []) j i = true := by
        intro p hpF
        obtain ⟨hnd, hlen, hall, hpw⟩ := hP p hpF
        have hm : i ∈ p.filter fun k => !listed.getD k true := List.mem_filter.2 ⟨hall i h1, by rw [h2]; rfl⟩
        obtain ⟨pre, post, he⟩ := List.append_of_mem hm
        have hnd2 : (pre ++ i :: post).Nodup := he ▸ (hnd.sublist List.filter_sublist)
        have hi1 : i ∉ pre := by
          rw [List.nodup_append] at hnd2
          exact fun q => hnd2.2.2 i q i (by simp) rfl
        have hi2 : i ∉ post := by
          rw [List.nodup_append] at hnd2
          simp only [List.nodup_cons] at hnd2
          exact hnd2.2.1.1
        refine ⟨pre, post, he, ?_, hi1, fun j hj => ?_⟩
        · have e1 : (p.filter fun k => !(listed.setIfInBounds i true).getD k true) = (p.filter fun k => !listed.getD k true).filter fun k => decide (k ≠ i) := by
            rw [List.filter_filter]
            refine List.filter_congr fun k hk => ?_
            by_cases e : k = i
            · subst e; simp [hlt]
            · have e' : i ≠ k := fun q => e q.symm
              simp [Array.getElem?_setIfInBounds_ne e', e]
          rw [e1, he, List.filter_append, List.filter_cons]
          simp only [ne_eq, not_true_eq_false, decide_false, Bool.false_eq_true, if_false]
          rw [List.filter_eq_self.2 (fun k hk => by simp; rintro rfl; exact hi1 hk), List.filter_eq_self.2 (fun k hk => by simp; rintro rfl; exact hi2 hk)]
        · have hjm : j ∈ p.filter fun k => !listed.getD k true := by rw [he]; simp [hj]
          obtain ⟨hj1, hj2⟩ := List.mem_filter.1 hjm
          have hpw2 : (pre ++ i :: post).Pairwise fun j i => pairOk P l (masks l []) j i = true := he ▸ (hpw.sublist List.filter_sublist)
          exact ⟨hlen j hj1, by simpa using hj2, (List.pairwise_append.1 hpw2).2.2 j hj i (by simp)⟩
      have hpreOf : ∀ j, j < l.length → listed.getD j true = false → pairOk P l (masks l []) j i = true → (isK2 P l i && isK2 P l j) = false → ∃ oj, l.toArray[j]? = some oj ∧ free P l.toArray oi oj = true := by
        intro j hj1 hj2 hpo hk
        have hjs : j < listed.size := by omega
        simp only [pairOk, Bool.or_eq_true] at hpo
        rcases hpo with (hb | hb) | hb
        · have h4 := reach_listed hsh ho h3 (hmask i j hb)
          simp [hjs] at h4 hj2
          rw [h4] at hj2; cases hj2
        · rw [hb] at hk; cases hk
        · rw [ho, List.getElem?_eq_getElem hj1] at hb
          exact ⟨l[j], by simp [hj1], hb⟩
      have hrem' : ∀ k, k ∈ rem.filter (fun k => decide (k ≠ i)) ↔ k < l.length ∧ (listed.setIfInBounds i true).getD k true = false := by
        intro k
        rw [List.mem_filter, hrem k]
        by_cases e : k = i
        · subst e; simp [hlt]
        · have e' : i ≠ k := fun q => e q.symm
          simp [Array.getElem?_setIfInBounds_ne e', e]
      have hp' : (rem.filter fun k => decide (k ≠ i)).Pairwise (· < ·) := hp.sublist List.filter_sublist
      have hl' : (rem.filter fun k => decide (k ≠ i)).length ≤ fuel := by
        have : (rem.filter fun k => decide (k ≠ i)).length < rem.length := List.length_filter_lt_length_iff_exists.2 ⟨i, himem, by simp⟩
        omega
      have hsh' := shut_set hs h1 ho h3 hsh
      -- the next sequence of effects
      have next : ∃ π', (∀ k, k ∈ π' ↔ isK2 P l k = true ∧ (listed.setIfInBounds i true).getD k false = true) ∧ (∃ m, cover P l (masks l []) F m π' = true) ∧
          pone P l.toArray oi (fun st' => ∀ p, (p ∈ F ∧ π' <+: p.filter (isK2 P l)) → plist P l.toArray (fun st' => Q .normal st') (p.filter fun k => !(listed.setIfInBounds i true).getD k true) st') st := by
        obtain ⟨m, hm⟩ := hcov
        cases m with
        | zero => cases hm
        | succ m =>
          have hm0 := hm
          simp only [cover, Bool.and_eq_true] at hm
          by_cases hk : kindOf P oi < 2
          · have hk2 : isK2 P l i = false := by simp [isK2, ho, hk]
            obtain ⟨p0, hp0, hpre0⟩ := List.any_eq_true.1 hm.1
            have hpre0 := List.isPrefixOf_iff_prefix.1 hpre0
            obtain ⟨pre0, post0, e1, e2, _, e3⟩ := hsplit p0 hp0
            have hK0 := hK p0 hp0 hpre0
            rw [e1] at hK0
            obtain ⟨d, hd⟩ := extract ho' hk pre0 (fun j hj => by obtain ⟨a1, a2, a3⟩ := e3 j hj; exact hpreOf j a1 a2 a3 (by rw [hk2]; rfl)) hR hE hK0
            refine ⟨π, fun k => ?_, ⟨m + 1, hm0⟩, (hd st _ (fun _ _ => rfl) (fun _ _ _ => rfl) (.inr rfl)).1 fun p ⟨hpF, hpp⟩ => ?_⟩
            · rw [hπ k]
              by_cases e : k = i
              · subst e; rw [hk2]; simp
              · have e' : i ≠ k := fun q => e q.symm
                simp [Array.getElem?_setIfInBounds_ne e']
            · obtain ⟨pre, post, e1, e2, _, e3⟩ := hsplit p hpF
              have hKp := hK p hpF hpp
              rw [e1] at hKp
              rw [e2]
              exact push ho' hk pre (fun j hj => by obtain ⟨a1, a2, a3⟩ := e3 j hj; exact hpreOf j a1 a2 a3 (by rw [hk2]; rfl)) hd hKp
          · have hk2 : isK2 P l i = true := by simp [isK2, ho, hk]
            have hnotin : i ∉ π := fun q => by rw [((hπ i).1 q).2] at h2'; cases h2'
            have hcov' : cover P l (masks l []) F m (π ++ [i]) = true := by
              have := List.all_eq_true.1 hm.2 i (List.mem_range.2 h1)
              simp only [Bool.or_eq_true] at this
              rcases this with ((hb | hb) | hb) | hb
              · rw [hk2] at hb; cases hb
              · exact absurd (by simpa using hb) hnotin
              · exfalso
                obtain ⟨j, hj, hb⟩ := List.any_eq_true.1 hb
                simp only [Bool.and_eq_true, Bool.not_eq_true'] at hb
                have h4 := reach_listed hsh ho h3 (hmask i j hb.1.2)
                have : j ∈ π := (hπ j).2 ⟨hb.1.1, h4⟩
                have h5 : π.contains j = true := by simpa using this
                rw [h5] at hb; cases hb.2
              · exact hb
            have hone : ∀ p, (p ∈ F ∧ (π ++ [i]) <+: p.filter (isK2 P l)) → pone P l.toArray oi (plist P l.toArray (fun st' => Q .normal st') (p.filter fun k => !(listed.setIfInBounds i true).getD k true)) st := by
              rintro p ⟨hpF, hpp⟩
              obtain ⟨pre, post, e1, e2, e4, e3⟩ := hsplit p hpF
              have hKp := hK p hpF ((List.prefix_append π [i]).trans hpp)
              rw [e1] at hKp
              rw [e2]
              have hno : ∀ j ∈ pre, isK2 P l j = false := by
                obtain ⟨rest, hrest⟩ := hpp
                have q1 : (p.filter fun k => !listed.getD k true).filter (isK2 P l) = (p.filter (isK2 P l)).filter fun k => !listed.getD k true := by
                  rw [List.filter_filter, List.filter_filter]
                  exact List.filter_congr fun k _ => Bool.and_comm _ _
                rw [e1, ← hrest, List.filter_append, List.filter_append, List.filter_append] at q1
                have q2 : (π.filter fun k => !listed.getD k true) = [] := by
                  rw [List.filter_eq_nil_iff]
                  intro k hk' hq
                  have h6 := ((hπ k).1 hk').2
                  have hks : k < listed.size := by
                    rcases Nat.lt_or_ge k listed.size with q | q
                    · exact q
                    · simp [Array.getElem?_eq_none q] at h6
                  simp [hks] at h6 hq
                  rw [h6] at hq; cases hq
                have q3 : ([i].filter fun k => !listed.getD k true) = [i] := by simp only [List.filter_cons, h2]; rfl
                rw [q2, q3, List.nil_append, List.filter_cons, if_pos hk2] at q1
                intro j hj
                cases hq : isK2 P l j with
                | false => rfl
                | true =>
                  exfalso
                  have hjm : j ∈ pre.filter (isK2 P l) := List.mem_filter.2 ⟨hj, hq⟩
                  cases hf : pre.filter (isK2 P l) with
                  | nil => rw [hf] at hjm; cases hjm
                  | cons x xs =>
                    rw [hf] at q1
                    have : x = i := by simpa using (List.cons.inj q1).1
                    have hx : x ∈ pre.filter (isK2 P l) := by rw [hf]; simp
                    rw [this] at hx
                    exact e4 (List.mem_filter.1 hx).1
              exact front ho' hk pre (fun j hj => by obtain ⟨a1, a2, a3⟩ := e3 j hj; exact hpreOf j a1 a2 a3 (by rw [hno j hj]; simp)) hKp
            have hsome : ∃ p, p ∈ F ∧ (π ++ [i]) <+: p.filter (isK2 P l) := by
              cases m with
              | zero => cases hcov'
              | succ m =>
                have := hcov'
                simp only [cover, Bool.and_eq_true] at this
                obtain ⟨p, hp1, hp2⟩ := List.any_eq_true.1 this.1
                exact ⟨p, hp1, List.isPrefixOf_iff_prefix.1 hp2⟩
            obtain ⟨p0, hp0⟩ := hsome
            have hcall : isCall oi.op = none := by
              have := List.all_eq_true.1 hcalls oi (List.mem_of_getElem? ho)
              simpa using this
            refine ⟨π ++ [i], fun k => ?_, ⟨m, hcov'⟩, pone_all hcall p0 hp0 hone⟩
            rw [List.mem_append, hπ k, List.mem_singleton]
            by_cases e : k = i
            · subst e; simp [hk2, hlt]
            · have e' : i ≠ k := fun q => e q.symm
              simp [Array.getElem?_setIfInBounds_ne e', e]
      obtain ⟨π', n1, n2, n3⟩ := next
      have hs' := step_sound (next := wpAny P .any l.toArray (Post P base w0 Γ0 n Q) fuel (listed.setIfInBounds i true)) (Q' := Post P base w0 Γ0 n Q) hR hE n3
        (fun st' Γ' w' a' hle hR' hE' hsz' hk' => ih (listed.setIfInBounds i true) _ π' (by simpa using hs) hrem' hp' hl' hsh' n1 n2 (h0.trans hle) hR' hE' (hsz'.trans hn) fun p h5 h6 => hk' p ⟨h5, h6⟩)
      unfold wpOp
      rw [ho']
      simp only
      split
      · rename_i hw; rw [if_pos hw] at hs'; exact .inl hs'
      · rename_i hw; rw [if_neg hw] at hs'; exact hs'
/-- The operations in an order. -/
def popsL (P : Program) (l : List Oper) (K : PSt → Prop) (p : List Nat) : PSt → Prop := plist P l.toArray K p
theorem pwp_region_orders (hm : P.follows .mixedOrders = true) {id : Nat} {l : List Oper} {F : List (List Nat)} {st : PSt} {Q : Exit → PSt → Prop} (hok : ordersOk P l F = true) (h : ∀ p ∈ F, plist P l.toArray (fun st' => Q .normal st') p st) :
    pwp P n (.region id l.toArray true) Q st := by
  intro base w0 Γ w a h1 h2 h3
  refine wp_region_any hm ?_
  have hR : Rel P base w0 Γ st.H { w with drawn := w.drawn + 1 } := h1.drew
  have hsz : l.toArray.size = l.length := by simp
  rw [hsz]
  have hcov : cover P l (masks l []) F (l.length + 1) [] = true := by
    simp only [ordersOk, Bool.and_eq_true] at hok
    exact hok.2
  have hlen : ∀ p ∈ F, ∀ i ∈ p, i < l.length := fun p hp i hi => by
    simp only [ordersOk, Bool.and_eq_true] at hok
    have := List.all_eq_true.1 hok.1.2 p hp
    simp only [Bool.and_eq_true] at this
    simpa using List.all_eq_true.1 this.1.1.2 i hi
  refine drawE_sound hok l.length (Array.replicate l.length false) (List.range' 0 l.length) [] (by simp) (fun i => ?_) List.pairwise_lt_range' (by simp) ?_ (fun i => ?_) ⟨_, hcov⟩ (.refl Γ) hR h2 h3 fun p hp _ => ?_
  · by_cases e : i < l.length
    · simp [e]
    · simp [e]
  · intro k o hk hl
    exfalso
    have : k < l.length := (List.getElem?_eq_some_iff.1 hk).1
    simp [this] at hl
  · constructor
    · intro q; cases q
    · rintro ⟨_, q⟩
      exfalso
      rcases Nat.lt_or_ge i l.length with e | e
      · simp [e] at q
      · simp [e] at q
  · rw [List.filter_eq_self.2 (fun i hi => by simp [hlen p hp i hi])]
    exact h p hp
end
end Go.Pv
