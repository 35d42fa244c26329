/- Each operation does so: the second part. -/
import Derived.Test.YtmaajijhfpdefaaPwSound
namespace Go.Pw
open Go.RowKit
section
variable {P : Program} {base : Nat} {w0 : World} {Γ : Gh} {H : Heap} {w : World}

theorem below_alloc_ (h : Rel P base w0 Γ H w) (o : Obj) : Below base w0 (w.alloc o) := h.below.alloc h.size o

theorem ofZero_cells {z : Value} (h1 : ∀ c ∈ z.cells.toList, c.oneCell' = true) : cellsD (ofZero z) = z.cells.toList.map ofVal := by
  unfold ofZero
  split
  · rfl
  · rename_i v hv
    have hc : z.cells = #[z] := by cases z <;> first | rfl | exact absurd rfl (hv _)
    rw [hc]
    have : cellsD (ofVal z) = [ofVal z] := by
      unfold ofVal
      split
      · rfl
      · cases z <;> rfl
    simpa using this
theorem RepAll.ofVals (P : Program) (Γ : Gh) (vs : List Value) : RepAll P Γ (vs.map ofVal) vs := by
  refine ⟨by simp, fun i d v hd hv => ?_⟩
  simp only [List.getElem?_map, hv, Option.map_some, Option.some.injEq] at hd
  subst hd
  exact Rep.ofVal P Γ v
theorem zeroElem_spec {e : TypeId} {z : D} (h : zeroElem P e = some z) : ∃ i v, P.info? e = some i ∧ i.zero = some v ∧ v.cells.size = i.size ∧ szOf P e = i.size ∧ (∀ c ∈ v.cells.toList, c.oneCell' = true) ∧ z = ofZero v ∧
    cellsD z = v.cells.toList.map ofVal := by
  unfold zeroElem at h
  split at h
  · rename_i i hi
    split at h
    · rename_i v hv
      split at h
      · rename_i hc
        cases h
        have h1 : ∀ c ∈ v.cells.toList, c.oneCell' = true := fun c hc' => List.all_eq_true.1 hc.2 c hc'
        exact ⟨i, v, hi, hv, hc.1, by simp [szOf, hi], h1, rfl, ofZero_cells h1⟩
      · cases h
    · cases h
  · cases h

/-- New memory becomes a box. -/
theorem boxed (h : Rel P base w0 Γ H w) (vs : List Value) (T : TypeId) (cs : List D) (hr : RepAll P Γ cs vs) (h1 : ∀ u ∈ vs, u.oneCell' = true) :
    ∃ i Γ', 2 ≤ i ∧ H i = none ∧ Γ.le Γ' ∧ Γ'.box i w.heap.size ∧ Rel P base w0 Γ' (H.put i (some (.cells cs))) (w.alloc (.cells vs.toArray T)) :=
  h.newBox vs.toArray T (0, 0) (.inl rfl) cs (by simpa using Nat.le_of_eq hr.1) (fun j d hd => by
    obtain ⟨v, hv⟩ : ∃ v, vs[j]? = some v := ⟨_, List.getElem?_eq_getElem (by rw [← hr.1]; exact (List.getElem?_eq_some_iff.1 hd).1)⟩
    exact ⟨v, by simpa using hv, hr.2 j d v hd hv, h1 v (List.mem_of_getElem? hv)⟩) (below_alloc_ h _) (fun b hb => hpOld w _ b hb) (hpNew w _)

/-- New memory, never written again. -/
theorem fixed (h : Rel P base w0 Γ H w) (vs : List Value) (T : TypeId) (h1 : ∀ u ∈ vs, u.oneCell' = true) :
    ∃ Γ', Γ.le Γ' ∧ (∀ (j : Nat) v, vs[j]? = some v → Γ'.K ⟨w.heap.size, j, none⟩ v) ∧ Rel P base w0 Γ' H (w.alloc (.cells vs.toArray T)) := by
  have hA := h.alloc (.cells vs.toArray T)
  have hc : ∀ j, (w.alloc (.cells vs.toArray T)).cell? ⟨w.heap.size, j, none⟩ = vs[j]? := fun j => by
    rw [cell_of_row _ w.heap.size j vs.toArray T (0, 0) (hpNew w _)]; simp
  have hL := hA.learn (fun a v => a.block = w.heap.size ∧ a.spot = none ∧ vs[a.off]? = some v)
    (by rintro ⟨b, o, s⟩ v ⟨rfl, rfl, hv⟩; exact ⟨(hc o).trans hv, h1 v (List.mem_of_getElem? hv)⟩)
    (by rintro a v ⟨hb, _⟩ i cs hi hbx; have := (h.boxLt hi hbx).2; omega)
    (by rintro a v ⟨hb, _⟩ g n c e hg ht; have := (h.tokLt hg ht).2; omega)
  exact ⟨_, Γ.know_le _, fun j v hv => .inr ⟨rfl, rfl, hv⟩, hL⟩

theorem alloc_gives (h : Rel P base w0 Γ H w) {t : TypeId} {K : D → Heap → Prop} (hK : pAlloc P t H K) : Gives P base w0 Γ w (Instr.alloc t true (.tuple #[])) K := by
  unfold pAlloc at hK
  split at hK
  · rename_i z hz
    obtain ⟨i, v, hi, hv, hs, hsz, h1, rfl, hc⟩ := zeroElem_spec hz
    obtain ⟨j, Γ', j2, hj, hle, hb, hR⟩ := boxed h v.cells.toList t (cellsD (ofZero v)) (by rw [hc]; exact .ofVals P Γ _) h1
    exact ⟨.pointer (some ⟨w.heap.size, 0, none⟩), _, Γ', _, _, by simp [Instr.alloc, zeroValue, typeInfo, hi, hv, newVar, newRow, Result.andThen], hle, hR, .ptr j 0 _ hb, hK j j2 hj⟩
  · exact hK.elim

theorem box_gives (h : Rel P base w0 Γ H w) {t : TypeId} {d : D} {v : Value} {K : D → Heap → Prop} (hd : Rep P Γ d v) (hK : pBox d H K) : Gives P base w0 Γ w (Instr.box t v) K := by
  obtain ⟨hok, hK⟩ := hK
  obtain ⟨hra, h1⟩ := part_cells hok hd
  have hrun : (Instr.box t v).run P w = .ok (.pointer (some ⟨w.heap.size, 0, none⟩)) (w.alloc (.cells v.cells.toList.toArray t)) := by
    simp [Instr.box, newVar, newRow]
  rcases hK with hK | hK
  · obtain ⟨j, Γ', j2, hj, hle, hb, hR⟩ := boxed h v.cells.toList t _ hra h1
    exact ⟨_, _, Γ', _, _, hrun, hle, hR, .ptr j 0 _ hb, hK j j2 hj⟩
  · obtain ⟨Γ', hle, hk, hR⟩ := fixed h v.cells.toList t h1
    refine ⟨_, _, Γ', _, _, hrun, hle, hR, ?_, hK⟩
    have hg : ∀ (i : Nat) d', (cellsD d)[i]? = some d' → v.cells.toList[i]? = some (v.cells.toList.getD i undef) := fun i d' hd' => by
      have : i < v.cells.toList.length := by rw [← hra.1]; exact (List.getElem?_eq_some_iff.1 hd').1
      simp [List.getD, List.getElem?_eq_getElem this]
    have := Rep.obj (P := P) (Γ := Γ') (cellsD d) 0 ⟨w.heap.size, 0, none⟩ (fun i => v.cells.toList.getD i undef)
      (fun i d' hd' => by rw [Addr.add_lit, Nat.zero_add]; exact hk i _ (hg i d' hd')) (fun i d' hd' => (hra.2 i d' _ hd' (hg i d' hd')).mono hle)
    rwa [Addr.add_zero'] at this

/-- A literal's or a make's row becomes a slice of the call's own. -/
theorem owned (h : Rel P base w0 Γ H w) (e : TypeId) (n cap : Nat) (vs : List Value) (l : List D) (hl : l.length = n) (hn : n ≤ cap) (hm : cap ≤ maxLen) (hs : ∀ d ∈ l, (cellsD d).length = szOf P e)
    (hsz : vs.length = cap * szOf P e) (hr : RepPre P Γ (flat l) vs) :
    ∃ g Γ', 2 ≤ g ∧ H g = none ∧ Γ.le Γ' ∧ Rep P Γ' (.slice g e l) (.slice (some ⟨w.heap.size, 0, none⟩) n cap) ∧ Rel P base w0 Γ' (H.put g (some .spare)) (w.alloc (.cells vs.toArray e)) := by
  have hA := h.alloc (.cells vs.toArray e)
  have hfl := flat_length hs
  obtain ⟨g, Γ', g2, hg, _, hle, htok, hk, hR⟩ := hA.newTok w.heap.size n cap e vs.toArray h.size (hpNew w _) hn hm (by simpa using hsz)
    (fun j v hj hv => by
      have hd : (flat l)[j]? = some ((flat l)[j]'(by rw [hfl, hl]; exact hj)) := List.getElem?_eq_getElem _
      exact (hr.2 j _ v hd (by simpa using hv)).2)
    (fun i cs hi hbx => by have := (h.boxLt hi hbx).2; omega) (fun g n c e hg ht => by have := (h.tokLt hg ht).2; omega)
    (fun a v k hb => by have := h.lt k; omega)
  refine ⟨g, Γ', g2, hg, hle, ?_, hR⟩
  have hget : ∀ (i : Nat) d, (flat l)[i]? = some d → i < n * szOf P e ∧ vs[i]? = some (vs.getD i undef) := fun i d hd => by
    have hi : i < (flat l).length := (List.getElem?_eq_some_iff.1 hd).1
    have : i < vs.length := by have := hr.1; omega
    exact ⟨by rw [hfl, hl] at hi; exact hi, by simp [List.getD, List.getElem?_eq_getElem this]⟩
  subst hl
  exact .slice g e l _ ⟨w.heap.size, 0, none⟩ cap (fun i => vs.getD i undef) (by omega) hn hm (.inr rfl) (fun _ => ⟨_, rfl, htok⟩) hs
    (fun i d hd => by rw [Addr.add_lit, Nat.zero_add]; exact hk i _ (hget i d hd).1 (by simpa using (hget i d hd).2))
    (fun i d hd => ((hr.2 i d _ hd (hget i d hd).2).1).mono hle)

/-! ### Literals -/
theorem foldl_set (off : Nat) : ∀ (us : List Value) (k : Nat) (cells : Array Value),
    ((us.zipIdx k).foldl (fun cs (x : Value × Nat) => cs.setIfInBounds (off + x.2) x.1) cells).toList = updV cells.toList (off + k) us
  | [], _, _ => rfl
  | u :: us, k, cells => by
    rw [List.zipIdx_cons, List.foldl_cons, foldl_set off us (k + 1)]
    simp [updV, Nat.add_assoc]
theorem fill_spec (place : Nat → Option (Nat × Nat)) : ∀ (ps : List (Nat × D)) (vs : List (Nat × Value)) (cells : List D) (vcells : Array Value) (cs : List D), RepPre P Γ cells vcells.toList → cells.length = vcells.size →
    fillD place cells ps = some cs → ps.length = vs.length → (∀ (i : Nat) p q, ps[i]? = some p → vs[i]? = some q → p.1 = q.1 ∧ Rep P Γ p.2 q.2) →
    ∃ r, Instr.fill place vcells vs = some r ∧ RepPre P Γ cs r.toList ∧ cs.length = r.size
  | [], [], cells, vcells, cs, h, hl, hf, _, _ => by
    simp [fillD] at hf; subst hf
    exact ⟨vcells, rfl, h, hl⟩
  | [], _ :: _, _, _, _, _, _, _, hl, _ => by simp at hl
  | _ :: _, [], _, _, _, _, _, _, hl, _ => by simp at hl
  | (i, d) :: ps, (j, v) :: vs, cells, vcells, cs, h, hlen, hf, hl, hp => by
    obtain ⟨rfl, hr⟩ := hp 0 _ _ rfl rfl
    simp only at hr
    simp only [fillD] at hf
    split at hf
    · cases hf
    · rename_i off size hpl
      split at hf
      · cases hf
      · rename_i hc
        simp only [not_or, Decidable.not_not, Bool.not_eq_false] at hc
        obtain ⟨c1, c2, c3⟩ := hc
        obtain ⟨hra, hone⟩ := part_cells c3 hr
        have hvl : v.cells.size = (cellsD d).length := by rw [hra.1]; simp
        have hv1 : (v.cells.zipIdx.foldl (fun cs (x : Value × Nat) => cs.setIfInBounds (off + x.2) x.1) vcells).toList = updV vcells.toList off v.cells.toList := by
          have := foldl_set off v.cells.toList 0 vcells
          rw [← Array.foldl_toList, Array.toList_zipIdx]
          exact this
        obtain ⟨r, hr1, hr2⟩ := fill_spec place ps vs (updD cells off (cellsD d)) (v.cells.zipIdx.foldl (fun cs (x : Value × Nat) => cs.setIfInBounds (off + x.2) x.1) vcells) cs
          (by rw [hv1]; exact h.upd off hra hone) (by rw [updD_length, ← Array.length_toList, hv1, updV_length]; simpa using hlen) hf (by simpa using hl)
          (fun k p q hp' hq' => hp (k + 1) p q (by simpa using hp') (by simpa using hq'))
        refine ⟨r, ?_, hr2⟩
        simp only [Instr.fill, hpl]
        rw [if_neg (by simp; omega)]
        exact hr1
theorem zeroD_spec {t : TypeId} {z : List D} (h : zeroD P t = some z) : ∃ i v, P.info? t = some i ∧ i.zero = some v ∧ z = v.cells.toList.map ofVal := by
  unfold zeroD at h
  split at h
  · rename_i i hi
    split at h
    · rename_i v hv
      cases h
      exact ⟨i, v, hi, hv, rfl⟩
    · cases h
  · cases h
theorem RepAll.ofParts {env : Operand → D} {ρ : Operand → Value} (h : ∀ x, Rep P Γ (env x) (ρ x)) (ps : List (Nat × Operand)) :
    ∀ (i : Nat) p q, (ps.map fun x => (x.1, env x.2))[i]? = some p → (ps.map fun x => (x.1, ρ x.2))[i]? = some q → p.1 = q.1 ∧ Rep P Γ p.2 q.2 := by
  intro i p q hp hq
  simp only [List.getElem?_map] at hp hq
  cases hx : ps[i]? with
  | none => simp [hx] at hp
  | some x =>
    simp [hx] at hp hq
    subst hp; subst hq
    exact ⟨rfl, h _⟩

theorem run_mapM_sizes (w : World) : ∀ (fs : List Field), (fs.all fun f => decide (0 < szOf P f.type)) = true →
    (fs.mapM fun f => do pure (f.offset, ← sizeOf f.type) : Sem (List (Nat × Nat))).run P w = .ok (fs.map fun f => (f.offset, szOf P f.type)) w
  | [], _ => rfl
  | f :: fs, h => by
    simp only [List.all_cons, Bool.and_eq_true, decide_eq_true_eq] at h
    have ih := run_mapM_sizes w fs h.2
    simp only [bind_pure_comp] at ih
    simp [List.mapM_cons, run_sizeOf_pos h.1 w, ih, Result.andThen]

theorem build_still {t : TypeId} {ps : List (Nat × D)} {vs : List (Nat × Value)} {K : D → Prop} (hl : ps.length = vs.length) (hp : ∀ (i : Nat) p q, ps[i]? = some p → vs[i]? = some q → p.1 = q.1 ∧ Rep P Γ p.2 q.2) (hK : pBuild P t ps K) : Still P Γ w (Instr.build t vs.toArray) K := by
  unfold pBuild at hK
  split at hK
  · rename_i z hz
    obtain ⟨hz1, hK⟩ := hK
    obtain ⟨i, v, hi, hv, rfl⟩ := zeroD_spec hz
    have hall := RepAll.ofVals P Γ v.cells.toList
    have hpre : RepPre P Γ (v.cells.toList.map ofVal) v.cells.toList := ⟨by simp, fun j d u hd hu => ⟨hall.2 j d u hd hu, oneD_rep (List.all_eq_true.1 hz1 d (List.mem_of_getElem? hd)) (hall.2 j d u hd hu)⟩⟩
    have hzr : (zeroValue t).run P w = .ok v w := by simp [zeroValue, typeInfo, hi, hv]
    have fin : ∀ {cs : List D} {r : Array Value}, RepPre P Γ cs r.toList → cs.length = r.size → Rep P Γ (.agg cs) (.agg r) := fun {cs r} hq hlr => by
      have := Rep.agg (P := P) (Γ := Γ) cs r.toList (by simpa using hlr) (fun i d v hd hv => (hq.2 i d v hd hv).1)
      simpa using this
    split at hK
    · rename_i pl hpl
      split at hK
      · rename_i cs hcs
        unfold placesOf at hpl
        split at hpl
        · rename_i fs hu
          split at hpl
          · rename_i hpos
            cases hpl
            obtain ⟨r, hr1, hr2, hr3⟩ := fill_spec (Γ := Γ) (fun i => (fs.toList.map fun f => (f.offset, szOf P f.type))[i]?) ps vs _ v.cells cs hpre (by simp) hcs hl hp
            refine ⟨.agg r, _, ?_, fin hr2 hr3, hK⟩
            have hm := run_mapM_sizes (P := P) w fs.toList hpos
            have hm' : (fs.mapM fun f => do pure (f.offset, ← sizeOf f.type) : Sem (Array (Nat × Nat))).run P w = .ok (fs.toList.map fun f => (f.offset, szOf P f.type)).toArray w := by
              rw [Array.mapM_eq_mapM_toList, Sem.run_map, hm]; rfl
            have hf' : Instr.fill (fun i => ((fs.toList.map fun f => (f.offset, szOf P f.type)).toArray)[i]?) v.cells vs = some r := by
              rw [← hr1]; congr 1; funext i; simp
            simp only [Instr.build, Sem.run_bind, hzr, Result.andThen_ok, run_underlying hu, hm']
            rw [hf']
            rfl
          · cases hpl
        · cases hpl
      · exact hK.elim
    · split at hK
      · rename_i n e hu
        obtain ⟨hpos, hK⟩ := hK
        split at hK
        · rename_i cs hcs
          obtain ⟨r, hr1, hr2, hr3⟩ := fill_spec (Γ := Γ) _ ps vs _ v.cells cs hpre (by simp) hcs hl hp
          refine ⟨.agg r, _, ?_, fin hr2 hr3, hK⟩
          simp only [Instr.build, Sem.run_bind, hzr, Result.andThen_ok, run_underlying hu, run_sizeOf_pos hpos w]
          rw [hr1]
          rfl
        · exact hK.elim
      · exact hK.elim
  · exact hK.elim

theorem updV_splice : ∀ (r vs : List Value) (off : Nat), off + r.length ≤ vs.length → updV vs off r = vs.take off ++ r ++ vs.drop (off + r.length)
  | [], vs, off, h => by simp [updV]
  | u :: r, vs, off, h => by
    simp only [List.length_cons] at h
    rw [updV, updV_splice r (vs.set off u) (off + 1) (by simp; omega)]
    have e1 : (vs.set off u).take (off + 1) = vs.take off ++ [u] := by
      rw [List.take_succ_eq_append_getElem (by simp; omega)]
      simp only [List.take_set, List.getElem_set_self]
      rw [List.set_eq_of_length_le (by simp; omega)]
    have e2 : (vs.set off u).drop (off + 1 + r.length) = vs.drop (off + (u :: r).length) := by
      rw [List.drop_set, if_pos (by omega)]; simp; congr 1; omega
    rw [e1, e2]
    simp

theorem fill_seq (sz : Nat) : ∀ (vs : List Value) (k : Nat) (cells : Array Value), (∀ v ∈ vs, v.cells.size = sz) → (k + vs.length) * sz ≤ cells.size →
    ∃ r, Instr.fill (fun i => some (i * sz, sz)) cells ((vs.zipIdx k).map fun x => (x.2, x.1)) = some r ∧ r.toList = cells.toList.take (k * sz) ++ vs.flatMap (fun v => v.cells.toList) ++ cells.toList.drop ((k + vs.length) * sz)
  | [], k, cells, _, _ => ⟨cells, rfl, by simp⟩
  | v :: vs, k, cells, hs, hl => by
    have hv := hs v (by simp)
    simp only [List.length_cons] at hl
    have hk1 : (k + 1) * sz = k * sz + sz := by rw [Nat.add_mul, Nat.one_mul]
    have hle : (k + 1) * sz ≤ (k + (vs.length + 1)) * sz := Nat.mul_le_mul_right _ (by omega)
    have hv1 : (v.cells.zipIdx.foldl (fun cs (x : Value × Nat) => cs.setIfInBounds (k * sz + x.2) x.1) cells).toList = updV cells.toList (k * sz) v.cells.toList := by
      have := foldl_set (k * sz) v.cells.toList 0 cells
      rw [← Array.foldl_toList, Array.toList_zipIdx]
      exact this
    have hsp := updV_splice v.cells.toList cells.toList (k * sz) (by simp [hv]; omega)
    obtain ⟨r, hr, ht⟩ := fill_seq sz vs (k + 1) (v.cells.zipIdx.foldl (fun cs (x : Value × Nat) => cs.setIfInBounds (k * sz + x.2) x.1) cells) (fun x hx => hs x (by simp [hx]))
      (by rw [← Array.length_toList, hv1, updV_length]; simp; rw [show k + 1 + vs.length = k + (vs.length + 1) by omega]; exact hl)
    refine ⟨r, ?_, ?_⟩
    · rw [List.zipIdx_cons, List.map_cons]
      simp only [Instr.fill]
      rw [if_neg (by simp [hv]; omega)]
      exact hr
    · rw [ht, hv1, hsp]
      have hvl : v.cells.toList.length = sz := by simpa using hv
      have hA : (cells.toList.take (k * sz) ++ v.cells.toList).length = (k + 1) * sz := by
        simp only [List.length_append, List.length_take, hvl, Array.length_toList]; omega
      rw [List.take_append_of_le_length (by rw [hA]; exact Nat.le_refl _), ← hA, List.take_length]
      have hB : (k * sz + v.cells.toList.length) = (k + 1) * sz := by rw [hvl, hk1]
      rw [List.drop_append, List.drop_of_length_le (by rw [hA]; exact Nat.mul_le_mul_right _ (by omega)), List.nil_append, hB, List.drop_drop, hA]
      have hC : (k + 1) * sz + ((k + 1 + vs.length) * sz - (k + 1) * sz) = (k + (v :: vs).length) * sz := by
        have : (k + 1) * sz ≤ (k + 1 + vs.length) * sz := Nat.mul_le_mul_right _ (by omega)
        rw [List.length_cons, show k + (vs.length + 1) = k + 1 + vs.length by omega]; omega
      rw [hC]
      simp

theorem buildSlice_gives (h : Rel P base w0 Γ H w) {t : TypeId} {n : Nat} {ps : List (Nat × D)} {vs : List (Nat × Value)} {K : D → Heap → Prop} (hl : ps.length = vs.length)
    (hp : ∀ (i : Nat) p q, ps[i]? = some p → vs[i]? = some q → p.1 = q.1 ∧ Rep P Γ p.2 q.2) (hK : pBuildSlice P t n ps H K) : Gives P base w0 Γ w (Instr.buildSlice t n vs.toArray) K := by
  unfold pBuildSlice at hK
  split at hK
  · rename_i e hu
    obtain ⟨hpos, h24, hidx, hzs, hall, hK⟩ := hK
    obtain ⟨z, hz⟩ := Option.isSome_iff_exists.1 hzs
    obtain ⟨inf, zv, hi, hzv, rfl⟩ := zeroD_spec hz
    have hn : ps.length = n := by have := congrArg List.length hidx; simpa using this
    -- the values, in their order
    have hvidx : vs = ((vs.map (·.2)).zipIdx 0).map fun x => (x.2, x.1) := by
      apply List.ext_getElem?
      intro i
      simp only [List.getElem?_map, List.getElem?_zipIdx]
      cases hv : vs[i]? with
      | none => simp
      | some q =>
        have hlt : i < ps.length := by rw [hl]; exact (List.getElem?_eq_some_iff.1 hv).1
        have hpi : ps[i]? = some ps[i] := List.getElem?_eq_getElem hlt
        have h1 := (hp i _ q hpi hv).1
        have h2 : (ps.map (·.1))[i]? = (List.range n)[i]? := by rw [hidx]
        rw [List.getElem?_map, hpi, List.getElem?_range (by omega)] at h2
        simp at h2
        simp
        exact Prod.ext (by rw [← h1, h2]) rfl
    have hpart : ∀ (i : Nat) p q, ps[i]? = some p → vs[i]? = some q → okPart p.2 = true ∧ (cellsD p.2).length = szOf P e ∧ Rep P Γ p.2 q.2 := fun i p q hpi hqi => by
      have := List.all_eq_true.1 hall p (List.mem_of_getElem? hpi)
      simp at this
      exact ⟨this.1, this.2, (hp i p q hpi hqi).2⟩
    have hvsz : ∀ v ∈ vs.map (·.2), v.cells.size = szOf P e := by
      intro v hv
      obtain ⟨q, hq, rfl⟩ := List.mem_map.1 hv
      obtain ⟨i, hi⟩ := List.mem_iff_getElem?.1 hq
      have hlt : i < ps.length := by rw [hl]; exact (List.getElem?_eq_some_iff.1 hi).1
      obtain ⟨c1, c2, c3⟩ := hpart i _ q (List.getElem?_eq_getElem hlt) hi
      have := (part_cells c1 c3).1.1
      simp at this
      omega
    have hrun : ∀ w : World, (Instr.buildSlice t n vs.toArray).run P w = .ok (.slice (some ⟨w.heap.size, 0, none⟩) n n) (w.alloc (.cells ((vs.map (·.2)).flatMap fun v => v.cells.toList).toArray e)) := by
      intro w
      have key : ∀ zc : Array Value, Instr.fill (fun i => some (i * szOf P e, szOf P e)) ((Array.range (n * szOf P e)).map (zc[· % zc.size]!)) vs = some ((vs.map (·.2)).flatMap fun v => v.cells.toList).toArray := by
        intro zc
        obtain ⟨r, hr, ht⟩ := fill_seq (szOf P e) (vs.map (·.2)) 0 ((Array.range (n * szOf P e)).map (zc[· % zc.size]!)) hvsz (by simp [← hl, hn])
        rw [← hvidx] at hr
        have hr2 : r = ((vs.map (·.2)).flatMap fun v => v.cells.toList).toArray := by
          apply Array.toList_inj.1
          rw [ht]
          simp [← hl, hn]
        rw [hr, hr2]
      simp only [Instr.buildSlice, Sem.run_bind, run_underlying hu, run_sizeOf_pos hpos, Result.andThen_ok]
      rw [if_neg (by omega)]
      split
      · simp only [Sem.run_bind, Sem.run_pure, Result.andThen_ok]
        rw [key]
        simp [newRow]
      · have hzr : (zeroValue e).run P w = .ok zv w := by simp [zeroValue, typeInfo, hi, hzv]
        simp only [Sem.run_bind, Sem.run_pure, Result.andThen_ok, hzr]
        rw [key]
        simp [newRow]
    have hflat : RepAll P Γ (flat (ps.map (·.2))) ((vs.map (·.2)).flatMap fun v => v.cells.toList) ∧ ∀ u ∈ (vs.map (·.2)).flatMap (fun v => v.cells.toList), u.oneCell' = true := by
      clear hvidx hidx hall hrun hvsz hn hz hzs h24 hK
      induction ps generalizing vs with
      | nil =>
        cases vs with
        | nil => exact ⟨⟨rfl, by simp [flat]⟩, by simp⟩
        | cons => simp at hl
      | cons p ps ih =>
        cases vs with
        | nil => simp at hl
        | cons q vs =>
          obtain ⟨c1, c2, c3⟩ := hpart 0 p q rfl rfl
          obtain ⟨d1, d2⟩ := part_cells c1 c3
          obtain ⟨i1, i2⟩ := ih (vs := vs) (by simpa using hl) (fun i p q hp' hq' => hp (i + 1) p q (by simpa using hp') (by simpa using hq')) (fun i p q hp' hq' => hpart (i + 1) p q (by simpa using hp') (by simpa using hq'))
          refine ⟨⟨by simp [flat_cons, d1.1, i1.1], fun i d v hd hv => ?_⟩, fun u hu => ?_⟩
          · simp only [List.map_cons, flat_cons, List.flatMap_cons, List.getElem?_append] at hd hv
            rw [d1.1] at hd
            split at hd
            · rename_i hlt
              rw [if_pos hlt] at hv
              exact d1.2 i d v hd hv
            · rename_i hlt
              rw [if_neg hlt] at hv
              exact i1.2 _ d v hd hv
          · simp only [List.map_cons, List.flatMap_cons, List.mem_append] at hu
            exact hu.elim (d2 u) (i2 u)
    have hszs : ∀ d ∈ ps.map (·.2), (cellsD d).length = szOf P e := by
      intro d hd
      obtain ⟨p, hp', rfl⟩ := List.mem_map.1 hd
      have := List.all_eq_true.1 hall p hp'
      simp at this
      exact this.2
    have hlen : ((vs.map (·.2)).flatMap fun v => v.cells.toList).length = n * szOf P e := by
      rw [← hflat.1.1, flat_length hszs]; simp [hn]
    rcases hK with hK | hK
    · obtain ⟨g, Γ', g2, hg, hle, hrep, hR⟩ := owned h e n n _ (ps.map (·.2)) (by simp [hn]) (Nat.le_refl _) (by
          have : n * 1 ≤ n * szOf P e := Nat.mul_le_mul_left _ hpos
          simp only [maxLen]; omega) hszs hlen
        ⟨by rw [hflat.1.1]; exact Nat.le_refl _, fun i d v hd hv => ⟨hflat.1.2 i d v hd hv, hflat.2 v (List.mem_of_getElem? hv)⟩⟩
      exact ⟨_, _, Γ', _, _, hrun w, hle, hR, hrep, hK g g2 hg⟩
    · obtain ⟨j, Γ', j2, hj, hle, hb, hR⟩ := boxed h _ e _ hflat.1 hflat.2
      exact ⟨_, _, Γ', _, _, hrun w, hle, hR, .arr j e 0 n _ n hb (Nat.le_refl _) (by
          have : n * 1 ≤ n * szOf P e := Nat.mul_le_mul_left _ hpos
          simp only [maxLen]; omega), hK j j2 hj⟩
  · exact hK.elim
end
end Go.Pw
