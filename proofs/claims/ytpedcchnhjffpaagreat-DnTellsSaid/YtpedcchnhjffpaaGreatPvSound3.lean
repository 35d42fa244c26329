/- A part of the proof: functions of the program, walked, or what operations come to. -/
import Derived.Test.YtpedcchnhjffpaaGreatPvSound2
namespace Go.Pv
open Go.RowKit
section
variable {P : Program} {base : Prot} {w0 : World} {Γ : Gh} {H : Heap} {w : World}

theorem setIn_cells {x : D} {c : Nat} {ds : List D} (h : c + ds.length ≤ (cellsD x).length) (h1 : ∀ d ∈ ds, oneD d = true) : cellsD (setIn x c ds) = updD (cellsD x) c ds := by
  unfold setIn
  split
  · rfl
  · rename_i hx
    have hc : cellsD x = [x] := by cases x <;> first | rfl | exact absurd rfl (hx _)
    rw [hc] at h ⊢
    match ds, h with
    | [], _ => simp [updD, hc]
    | [y], h =>
      simp at h
      subst h
      have : cellsD y = [y] := by have := h1 y (by simp); cases y <;> first | rfl | (simp [oneD] at this)
      simp [updD, this]
    | y :: z :: r, h => simp at h; omega

theorem flat_split {P : Program} {e : TypeId} {l : List D} (hs : ∀ d ∈ l, (cellsD d).length = szOf P e) {k : Nat} {x : D} (hk : l[k]? = some x) :
    flat l = (flat l).take (k * szOf P e) ++ cellsD x ++ (flat l).drop ((k + 1) * szOf P e) := by
  obtain ⟨hlt, rfl⟩ := List.getElem?_eq_some_iff.1 hk
  have e1 : l = l.take k ++ l[k] :: l.drop (k + 1) := by rw [← List.drop_eq_getElem_cons hlt, List.take_append_drop]
  conv => lhs; rw [e1, flat_append, flat_cons, ← List.append_assoc]
  rw [flat_take hs, flat_drop hs]
theorem flat_set {P : Program} {e : TypeId} {l : List D} (hs : ∀ d ∈ l, (cellsD d).length = szOf P e) {k : Nat} {x y : D} (hk : l[k]? = some x) (hy : (cellsD y).length = szOf P e) :
    flat (l.set k y) = (flat l).take (k * szOf P e) ++ cellsD y ++ (flat l).drop ((k + 1) * szOf P e) := by
  obtain ⟨hlt, rfl⟩ := List.getElem?_eq_some_iff.1 hk
  have e1 : l.set k y = l.take k ++ y :: l.drop (k + 1) := List.set_eq_take_append_cons_drop .. |>.trans (by rw [if_pos hlt])
  rw [e1, flat_append, flat_cons, ← List.append_assoc, flat_take hs, flat_drop hs]
theorem updD_append : ∀ (ds a b c : List D) (o : Nat), o + ds.length ≤ b.length → updD (a ++ b ++ c) (a.length + o) ds = a ++ updD b o ds ++ c
  | [], a, b, c, o, h => by simp [updD]
  | d :: ds, a, b, c, o, h => by
    simp only [List.length_cons] at h
    simp only [updD]
    rw [List.append_assoc, List.set_append_right _ _ (by omega), show a.length + o - a.length = o by omega, List.set_append_left _ _ (by omega), ← List.append_assoc, Nat.add_assoc]
    exact updD_append ds a (b.set o d) c (o + 1) (by simp; omega)

theorem store_gives (h : Rel P base w0 Γ H w) {t : TypeId} {p d : D} {vp vd : Value} {H' : Heap} (hp : Rep P Γ p vp) (hd : Rep P Γ d vd) (hK : eStore P t p d H = some H') :
    ∃ w', (Instr.storeAt t vp vd).run P w = .ok () w' ∧ Rel P base w0 Γ H' w' := by
  -- the cells of a block, from one on, are written
  have put : ∀ {i : Nat} {o o' : PObj} {x : Gi} {vs : Array Value} {T : TypeId} {fr : Nat × Nat} {off : Nat}, H.get i = some o → Γ.g i = some x → w.heap[x.b]? = some (.cells vs T fr) → (fr = (0, 0) ∨ vs.size ≤ fr.1) →
      0 < szOf P t → okPart d = true → (cellsD d).length = szOf P t → off + szOf P t ≤ vs.size →
      (∀ us : List Value, RepAll P Γ (cellsD d) us → (∀ u ∈ us, u.oneCell' = true) → Holds P Γ (some (.cells (updV vs.toList off us).toArray T fr)) x o') →
      ∃ w', (Instr.storeAt t (.pointer (some ⟨x.b, off, none⟩)) vd).run P w = .ok () w' ∧ Rel P base w0 Γ (H.put i (some o')) w' := by
    intro i o o' x vs T fr off hi hx x3 x5 h0 hok hlen hoff hnew
    obtain ⟨x2, _, _⟩ := h.objAt hi hx
    obtain ⟨hra, hone⟩ := part_cells hok hd
    have hcl : vd.cells.toList.length = szOf P t := by rw [← hra.1]; exact hlen
    have hcell : ∀ j, j < vs.size → w.cell? ⟨x.b, j, none⟩ = vs[j]? := fun j _ => cell_of_row w x.b j vs T fr x3
    have hfz : ∀ j, j < vs.size → w.frozen? ⟨x.b, j, none⟩ = false := by
      intro j hj
      simp only [World.frozen?, x3]
      rcases x5 with rfl | x5
      · simp
      · simp; omega
    have hrun : (storeCells ⟨x.b, off, none⟩ vd.cells.toList 0).run P w = .ok () (w.setCells x.b (off + 0) vd.cells.toList) :=
      run_storeCells_cells x.b off vd.cells.toList 0 w (fun j hj => by
        rw [hcell _ (by omega)]; simp; omega) (fun j hj => hfz _ (by omega)) hone
    have hvs : w.heap[x.b]? = some (.cells vs.toList.toArray T fr) := by simpa using x3
    refine ⟨w.setCells x.b off vd.cells.toList, ?_, h.setObj hi hx (below_setCells x2 _ _ _ h.below) (by rw [size_setCells]; exact Nat.le_refl _) (fun k _ hk => heap_setCells_other x.b k hk _ _ _) ?_⟩
    · simp only [Instr.storeAt, Instr.sureAddr, Sem.run_bind, Sem.run_pure, Result.andThen_ok, storeVar, run_sizeOf_pos h0 w]
      have hsz : vd.cells.size = szOf P t := by rw [← hcl]; simp
      simpa [hsz] using hrun
    · rw [heap_setCells x.b T fr _ off w _ hvs]
      exact hnew _ hra hone
  unfold eStore at hK
  split at hK
  · rename_i i off
    split at hK
    · rename_i cs hi
      split at hK
      · rename_i hc
        obtain ⟨h0, hok, hlen, hoff⟩ := hc
        cases hK
        cases hp with
        | ptr _ _ x hx =>
          obtain ⟨x2, _, vs, T, fr, x3, x4, x5, x6⟩ := h.objAt hi hx
          refine put hi hx x3 x5 h0 hok hlen (by omega) fun us hra hone => ?_
          have hpre : RepPre P Γ cs vs.toList := ⟨by simpa using x4, fun j d v hd hv => by
            obtain ⟨v', hv', hr⟩ := x6 j d hd
            have : v' = v := by
              have e : vs[j]? = some v := by simpa using hv
              rw [hv'] at e; exact Option.some.inj e
            subst this; exact hr⟩
          refine ⟨_, T, fr, rfl, ?_, ?_, fun j d' hd' => ?_⟩
          · simp only [updD_length, List.size_toArray, updV_length]; simpa using x4
          · rcases x5 with x5 | x5
            · exact .inl x5
            · exact .inr (by simpa [updV_length] using x5)
          · have hup := hpre.upd off hra hone
            obtain ⟨v, hv⟩ : ∃ v, (updV vs.toList off us)[j]? = some v :=
              ⟨_, List.getElem?_eq_getElem (by have := (List.getElem?_eq_some_iff.1 hd').1; have := hup.1; omega)⟩
            exact ⟨v, by simpa using hv, hup.2 j d' v hd' hv⟩
      · cases hK
    · cases hK
  · rename_i i e k c
    split at hK
    · rename_i e' l hi
      split at hK
      · rename_i y hy
        split at hK
        · rename_i hc
          obtain ⟨rfl, h0, hok, hlen, hoff⟩ := hc
          cases hK
          cases hp with
          | rptr _ _ _ _ x hx hex =>
            obtain ⟨x2, _, k1, k2, k3, k4, vs, T, fr, x3, x4, x5, x6⟩ := h.objAt hi hx
            obtain ⟨x51, x52, x5⟩ := x5
            have hsz := k4 y (List.mem_of_getElem? hy)
            have hlt := (List.getElem?_eq_some_iff.1 hy).1
            have hfl := flat_length k4
            have hkk : (k + 1) * szOf P e ≤ l.length * szOf P e := Nat.mul_le_mul_right _ hlt
            have hle : l.length * szOf P e ≤ x.cap * szOf P e := Nat.mul_le_mul_right _ k3
            have hk1 : (k + 1) * szOf P e = k * szOf P e + szOf P e := by rw [Nat.add_mul, Nat.one_mul]
            refine put hi hx x3 x5 h0 hok hlen (by omega) fun us hra hone => ?_
            have hone' : ∀ d' ∈ cellsD d, oneD d' = true := by
              unfold okPart at hok
              split at hok
              · exact fun d' hd' => List.all_eq_true.1 hok d' hd'
              · intro d' hd'
                have : cellsD d = [d] := by cases d <;> first | rfl | (simp [oneD] at hok)
                rw [this] at hd'; simp at hd'; subst hd'; exact hok
            have hci := setIn_cells (x := y) (c := c) (ds := cellsD d) (by omega) hone'
            have hsi : (cellsD (setIn y c (cellsD d))).length = szOf P e := by rw [hci, updD_length]; exact hsz
            have hflat : flat (l.set k (setIn y c (cellsD d))) = updD (flat l) (k * szOf P e + c) (cellsD d) := by
              rw [flat_set k4 hy hsi, hci]
              conv => rhs; rw [flat_split k4 hy]
              have hA : ((flat l).take (k * szOf P e)).length = k * szOf P e := by rw [List.length_take, hfl]; omega
              have := updD_append (cellsD d) ((flat l).take (k * szOf P e)) (cellsD y) ((flat l).drop ((k + 1) * szOf P e)) c (by omega)
              rw [hA] at this
              exact this.symm
            refine ⟨k1, k2, by simpa using k3, fun d' hd' => ?_, _, T, fr, rfl, ?_, ?_, fun j d' hd' => ?_⟩
            · rcases List.mem_or_eq_of_mem_set hd' with hh | hh
              · exact k4 d' hh
              · subst hh; exact hsi
            · simp only [List.size_toArray, updV_length]; simpa using x4
            · rcases x5 with x5 | x5
              · exact ⟨x51, x52, .inl x5⟩
              · exact ⟨x51, x52, .inr (by simpa [updV_length] using x5)⟩
            · rw [hflat] at hd'
              have hpre : RepPre P Γ (flat l) (vs.toList.drop x.o) := ⟨by simp; omega, fun j d v hd hv => by
                obtain ⟨v', hv', hr⟩ := x6 j d hd
                rw [List.getElem?_drop] at hv
                have e : vs[x.o + j]? = some v := by simpa using hv
                rw [hv'] at e
                have : v' = v := Option.some.inj e
                subst this; exact hr⟩
              have hup := hpre.upd (k * szOf P e + c) hra hone
              have hj : j < (flat l).length := by have := (List.getElem?_eq_some_iff.1 hd').1; rwa [updD_length] at this
              have hupd : ∀ (us vs : List Value) (o q : Nat), (updV vs (o + q) us).drop o = updV (vs.drop o) q us := by
                intro us
                induction us with
                | nil => intros; rfl
                | cons u us ih => intro vs o q; rw [updV, updV, Nat.add_assoc, ih, List.drop_set, if_neg (by omega), show o + q - o = q by omega]
              obtain ⟨v, hv⟩ : ∃ v, (updV (vs.toList.drop x.o) (k * szOf P e + c) us)[j]? = some v :=
                ⟨_, List.getElem?_eq_getElem (by have := hup.1; rw [updD_length] at this; omega)⟩
              refine ⟨v, ?_, hup.2 j d' v hd' hv⟩
              rw [← hupd, List.getElem?_drop] at hv
              rw [List.getElem?_toArray, show x.o + k * szOf P e + c = x.o + (k * szOf P e + c) by omega]
              exact hv
        · cases hK
      · cases hK
    · cases hK
  · cases hK

theorem ofZero_cells {z : Value} (h1 : ∀ c ∈ z.cells.toList, c.oneCell' = true) : cellsD (ofZero z) = z.cells.toList.map ofVal := by
  unfold ofZero
  split
  · rfl
  · rename_i v hv
    have hc : z.cells = #[z] := by cases z <;> first | rfl | exact absurd rfl (hv _)
    rw [hc]
    have : cellsD (ofVal z) = [ofVal z] := by
      unfold ofVal
      split
      · rfl
      · cases z <;> rfl
    simpa using this
theorem RepAll.ofVals (P : Program) (Γ : Gh) (vs : List Value) : RepAll P Γ (vs.map ofVal) vs := by
  refine ⟨by simp, fun i d v hd hv => ?_⟩
  simp only [List.getElem?_map, hv, Option.map_some, Option.some.injEq] at hd
  subst hd
  exact Rep.ofVal P Γ v
theorem zeroElem_spec {e : TypeId} {z : D} (h : zeroElem P e = some z) : ∃ i v, P.info? e = some i ∧ i.zero = some v ∧ v.cells.size = i.size ∧ szOf P e = i.size ∧ (∀ c ∈ v.cells.toList, c.oneCell' = true) ∧ z = ofZero v ∧
    cellsD z = v.cells.toList.map ofVal := by
  unfold zeroElem at h
  split at h
  · rename_i i hi
    split at h
    · rename_i v hv
      split at h
      · rename_i hc
        cases h
        have h1 : ∀ c ∈ v.cells.toList, c.oneCell' = true := fun c hc' => List.all_eq_true.1 hc.2 c hc'
        exact ⟨i, v, hi, hv, hc.1, by simp [szOf, hi], h1, rfl, ofZero_cells h1⟩
      · cases h
    · cases h
  · cases h

/-- New memory becomes a box. -/
theorem boxed (h : Rel P base w0 Γ H w) (vs : List Value) (T : TypeId) (cs : List D) (hr : RepAll P Γ cs vs) (h1 : ∀ u ∈ vs, u.oneCell' = true) :
    Rel P base w0 (Γ.add H.nx ⟨w.heap.size, 0, 0, T⟩) (H.new (.cells cs)) (w.alloc (.cells vs.toArray T)) := by
  have hA := h.alloc (.cells vs.toArray T)
  refine hA.add ⟨w.heap.size, 0, 0, T⟩ (.cells cs) h.newIn (h.newFree) ?_
  rw [hpNew]
  exact ⟨vs.toArray, T, (0, 0), rfl, by simpa using Nat.le_of_eq hr.1, .inl rfl, fun j d hd => by
    obtain ⟨v, hv⟩ : ∃ v, vs[j]? = some v := ⟨_, List.getElem?_eq_getElem (by rw [← hr.1]; exact (List.getElem?_eq_some_iff.1 hd).1)⟩
    exact ⟨v, by simpa using hv, hr.2 j d v hd hv, h1 v (List.mem_of_getElem? hv)⟩⟩
/-- New memory, never written again. -/
theorem fixed (h : Rel P base w0 Γ H w) (vs : List Value) (T : TypeId) (h1 : ∀ u ∈ vs, u.oneCell' = true) :
    ∃ Γ', Γ.le Γ' ∧ (∀ (j : Nat) v, vs[j]? = some v → Γ'.K ⟨w.heap.size, j, none⟩ v) ∧ Rel P base w0 Γ' H (w.alloc (.cells vs.toArray T)) := by
  have hA := h.alloc (.cells vs.toArray T)
  have hc : ∀ j, (w.alloc (.cells vs.toArray T)).cell? ⟨w.heap.size, j, none⟩ = vs[j]? := fun j => by
    rw [cell_of_row _ w.heap.size j vs.toArray T (0, 0) (hpNew w _)]; simp
  have hL := hA.learn (fun a v => a.block = w.heap.size ∧ a.spot = none ∧ vs[a.off]? = some v)
    (by rintro ⟨b, o, s⟩ v ⟨rfl, rfl, hv⟩; exact ⟨(hc o).trans hv, h1 v (List.mem_of_getElem? hv)⟩)
    (by rintro a v ⟨hb, _⟩ i o x hi hx; have := (h.objAt hi hx).2.1; omega)
  exact ⟨_, Γ.know_le _, fun j v hv => .inr ⟨rfl, rfl, hv⟩, hL fun a v ha hb => absurd (ha.1 ▸ hb) h.newIn⟩
theorem Rel.addLe (h : Rel P base w0 Γ H w) (x : Gi) : Γ.le (Γ.add H.nx x) := Gh.add_le (h.fresh _ (Nat.le_refl _))

theorem alloc_gives (h : Rel P base w0 Γ H w) {t : TypeId} {d : D} {H' : Heap} (hK : eAlloc P t H = some (d, H')) : Gives P base w0 Γ w (Instr.alloc t true (.tuple #[])) d H' := by
  unfold eAlloc at hK
  split at hK
  · rename_i z hz
    obtain ⟨i, v, hi, hv, hs, hsz, h1, rfl, hc⟩ := zeroElem_spec hz
    split at hK
    · cases hK
      have hA := h.alloc (.cells v.cells.toList.toArray t)
      refine ⟨.pointer (some ⟨w.heap.size, 0, none⟩), w.alloc (.cells v.cells.toList.toArray t), Γ.add H.nx ⟨w.heap.size, 0, 1, t⟩, by simp [Instr.alloc, zeroValue, typeInfo, hi, hv, newVar, newRow, Result.andThen], h.addLe _, hA.add ⟨w.heap.size, 0, 1, t⟩ (.row t [ofZero v]) h.newIn h.newFree ?_, ?_⟩
      · rw [hpNew]
        have hv1 := RepAll.ofVals P (Γ.add H.nx ⟨w.heap.size, 0, 1, t⟩) v.cells.toList
        have hfl : flat [ofZero v] = v.cells.toList.map ofVal := by simp only [flat, List.flatMap_cons, List.flatMap_nil, List.append_nil]; exact hc
        refine ⟨rfl, by show 1 ≤ maxLen; unfold maxLen; omega, by simp, fun d hd => ?_, v.cells.toList.toArray, t, (0, 0), rfl, by simp [hs, hsz], ⟨rfl, Nat.zero_mod _, .inl rfl⟩, fun j d hd => ?_⟩
        · simp at hd; subst hd; rw [hc]; simp [hs, hsz]
        · rw [hfl] at hd
          obtain ⟨u, hu⟩ : ∃ u, v.cells.toList[j]? = some u := ⟨_, List.getElem?_eq_getElem (by have := (List.getElem?_eq_some_iff.1 hd).1; simpa using this)⟩
          simp only [List.getElem?_map, hu, Option.map_some, Option.some.injEq] at hd
          subst hd
          exact ⟨u, by simpa using hu, Rep.ofVal P Γ u, h1 u (List.mem_of_getElem? hu)⟩
      · have := Rep.rptr (P := P) (Γ := Γ.add H.nx ⟨w.heap.size, 0, 1, t⟩) H.nx t 0 0 ⟨w.heap.size, 0, 1, t⟩ (Γ.add_at _ _) rfl
        simpa using this
    cases hK
    have hR := boxed h v.cells.toList t (cellsD (ofZero v)) (by rw [hc]; exact .ofVals P Γ _) h1
    exact ⟨.pointer (some ⟨w.heap.size, 0, none⟩), _, _, by simp [Instr.alloc, zeroValue, typeInfo, hi, hv, newVar, newRow, Result.andThen], h.addLe _, hR, .ptr H.nx 0 _ (Γ.add_at _ _)⟩
  · cases hK

theorem box_run (v : Value) (t : TypeId) (w : World) : (Instr.box t v).run P w = .ok (.pointer (some ⟨w.heap.size, 0, none⟩)) (w.alloc (.cells v.cells.toList.toArray t)) := by
  simp [Instr.box, newVar, newRow]
theorem box_gives (h : Rel P base w0 Γ H w) {t : TypeId} {d d' : D} {v : Value} {H' : Heap} (hd : Rep P Γ d v) (hK : eBox d H = some (d', H')) : Gives P base w0 Γ w (Instr.box t v) d' H' := by
  unfold eBox at hK
  split at hK
  · rename_i hok
    cases hK
    obtain ⟨hra, h1⟩ := part_cells hok hd
    exact ⟨_, _, _, box_run v t w, h.addLe _, boxed h v.cells.toList t _ hra h1, .ptr H.nx 0 _ (Γ.add_at _ _)⟩
  · cases hK

/-- A literal's or a make's row becomes one of the call's own. -/
theorem owned (h : Rel P base w0 Γ H w) (e : TypeId) (n cap : Nat) (vs : List Value) (l : List D) (hl : l.length = n) (hn : n ≤ cap) (hm : cap ≤ maxLen) (hs : ∀ d ∈ l, (cellsD d).length = szOf P e)
    (hsz : vs.length = cap * szOf P e) (hr : RepPre P Γ (flat l) vs) :
    ∃ Γ', Γ.le Γ' ∧ Rep P Γ' (.row H.nx e 0 n) (.slice (some ⟨w.heap.size, 0, none⟩) n cap) ∧ Rel P base w0 Γ' (H.new (.row e l)) (w.alloc (.cells vs.toArray e)) := by
  have hA := h.alloc (.cells vs.toArray e)
  refine ⟨_, h.addLe ⟨w.heap.size, 0, cap, e⟩, ?_, hA.add ⟨w.heap.size, 0, cap, e⟩ (.row e l) h.newIn h.newFree ?_⟩
  · have := Rep.row (P := P) (Γ := Γ.add H.nx ⟨w.heap.size, 0, cap, e⟩) H.nx e 0 n ⟨w.heap.size, 0, cap, e⟩ (Γ.add_at _ _) rfl (by simpa using hn) hm
    simpa using this
  · rw [hpNew]
    refine ⟨rfl, hm, by simp; omega, hs, vs.toArray, e, (0, 0), rfl, by simpa using hsz, ⟨rfl, Nat.zero_mod _, .inl rfl⟩, fun j d hd => ?_⟩
    obtain ⟨v, hv⟩ : ∃ v, vs[j]? = some v := ⟨_, List.getElem?_eq_getElem (by have := (List.getElem?_eq_some_iff.1 hd).1; have := hr.1; omega)⟩
    have := hr.2 j d v hd hv
    exact ⟨v, by simpa using hv, this.1, this.2⟩

/-! ### Literals -/
theorem foldl_set (off : Nat) : ∀ (us : List Value) (k : Nat) (cells : Array Value),
    ((us.zipIdx k).foldl (fun cs (x : Value × Nat) => cs.setIfInBounds (off + x.2) x.1) cells).toList = updV cells.toList (off + k) us
  | [], _, _ => rfl
  | u :: us, k, cells => by
    rw [List.zipIdx_cons, List.foldl_cons, foldl_set off us (k + 1)]
    simp [updV, Nat.add_assoc]
theorem fill_spec (place : Nat → Option (Nat × Nat)) : ∀ (ps : List (Nat × D)) (vs : List (Nat × Value)) (cells : List D) (vcells : Array Value) (cs : List D), RepPre P Γ cells vcells.toList → cells.length = vcells.size →
    fillD place cells ps = some cs → ps.length = vs.length → (∀ (i : Nat) p q, ps[i]? = some p → vs[i]? = some q → p.1 = q.1 ∧ Rep P Γ p.2 q.2) →
    ∃ r, Instr.fill place vcells vs = some r ∧ RepPre P Γ cs r.toList ∧ cs.length = r.size
  | [], [], cells, vcells, cs, h, hl, hf, _, _ => by
    simp [fillD] at hf; subst hf
    exact ⟨vcells, rfl, h, hl⟩
  | [], _ :: _, _, _, _, _, _, _, hl, _ => by simp at hl
  | _ :: _, [], _, _, _, _, _, _, hl, _ => by simp at hl
  | (i, d) :: ps, (j, v) :: vs, cells, vcells, cs, h, hlen, hf, hl, hp => by
    obtain ⟨rfl, hr⟩ := hp 0 _ _ rfl rfl
    simp only at hr
    simp only [fillD] at hf
    split at hf
    · cases hf
    · rename_i off size hpl
      split at hf
      · cases hf
      · rename_i hc
        simp only [not_or, Decidable.not_not, Bool.not_eq_false] at hc
        obtain ⟨c1, c2, c3⟩ := hc
        obtain ⟨hra, hone⟩ := part_cells c3 hr
        have hvl : v.cells.size = (cellsD d).length := by rw [hra.1]; simp
        have hv1 : (v.cells.zipIdx.foldl (fun cs (x : Value × Nat) => cs.setIfInBounds (off + x.2) x.1) vcells).toList = updV vcells.toList off v.cells.toList := by
          have := foldl_set off v.cells.toList 0 vcells
          rw [← Array.foldl_toList, Array.toList_zipIdx]
          exact this
        obtain ⟨r, hr1, hr2⟩ := fill_spec place ps vs (updD cells off (cellsD d)) (v.cells.zipIdx.foldl (fun cs (x : Value × Nat) => cs.setIfInBounds (off + x.2) x.1) vcells) cs
          (by rw [hv1]; exact h.upd off hra hone) (by rw [updD_length, ← Array.length_toList, hv1, updV_length]; simpa using hlen) hf (by simpa using hl)
          (fun k p q hp' hq' => hp (k + 1) p q (by simpa using hp') (by simpa using hq'))
        refine ⟨r, ?_, hr2⟩
        simp only [Instr.fill, hpl]
        rw [if_neg (by simp; omega)]
        exact hr1
theorem zeroD_spec {t : TypeId} {z : List D} (h : zeroD P t = some z) : ∃ i v, P.info? t = some i ∧ i.zero = some v ∧ z = v.cells.toList.map ofVal := by
  unfold zeroD at h
  split at h
  · rename_i i hi
    split at h
    · rename_i v hv
      cases h
      exact ⟨i, v, hi, hv, rfl⟩
    · cases h
  · cases h
theorem RepAll.ofParts {env : Operand → D} {ρ : Operand → Value} (h : ∀ x, Rep P Γ (env x) (ρ x)) (ps : List (Nat × Operand)) :
    ∀ (i : Nat) p q, (ps.map fun x => (x.1, env x.2))[i]? = some p → (ps.map fun x => (x.1, ρ x.2))[i]? = some q → p.1 = q.1 ∧ Rep P Γ p.2 q.2 := by
  intro i p q hp hq
  simp only [List.getElem?_map] at hp hq
  cases hx : ps[i]? with
  | none => simp [hx] at hp
  | some x =>
    simp [hx] at hp hq
    subst hp; subst hq
    exact ⟨rfl, h _⟩

theorem run_mapM_sizes (w : World) : ∀ (fs : List Field), (fs.all fun f => (P.info? f.type).isSome) = true →
    (fs.mapM fun f => do pure (f.offset, ← sizeOf f.type) : Sem (List (Nat × Nat))).run P w = .ok (fs.map fun f => (f.offset, szOf P f.type)) w
  | [], _ => rfl
  | f :: fs, h => by
    simp only [List.all_cons, Bool.and_eq_true] at h
    have ih := run_mapM_sizes w fs h.2
    simp only [bind_pure_comp] at ih
    have hs : (sizeOf f.type).run P w = .ok (szOf P f.type) w := by
      cases hi : P.info? f.type with
      | none => rw [hi] at h; cases h.1
      | some i => simp [sizeOf, typeInfo, hi, szOf]
    simp [List.mapM_cons, hs, ih, Result.andThen]

theorem build_still {t : TypeId} {ps : List (Nat × D)} {vs : List (Nat × Value)} {d : D} (hl : ps.length = vs.length) (hp : ∀ (i : Nat) p q, ps[i]? = some p → vs[i]? = some q → p.1 = q.1 ∧ Rep P Γ p.2 q.2) (hK : eBuild P t ps = some d) : Still P Γ w (Instr.build t vs.toArray) d := by
  unfold eBuild at hK
  split at hK
  · rename_i z hz
    split at hK
    · rename_i hz1
      obtain ⟨i, v, hi, hv, rfl⟩ := zeroD_spec hz
      have hall := RepAll.ofVals P Γ v.cells.toList
      have hpre : RepPre P Γ (v.cells.toList.map ofVal) v.cells.toList := ⟨by simp, fun j d u hd hu => ⟨hall.2 j d u hd hu, oneD_rep (List.all_eq_true.1 hz1 d (List.mem_of_getElem? hd)) (hall.2 j d u hd hu)⟩⟩
      have hzr : (zeroValue t).run P w = .ok v w := by simp [zeroValue, typeInfo, hi, hv]
      have fin : ∀ {cs : List D} {r : Array Value}, RepPre P Γ cs r.toList → cs.length = r.size → Rep P Γ (.agg cs) (.agg r) := fun {cs r} hq hlr => by
        have := Rep.agg (P := P) (Γ := Γ) cs r.toList (by simpa using hlr) (fun i d v hd hv => (hq.2 i d v hd hv).1)
        simpa using this
      split at hK
      · rename_i pl hpl
        split at hK
        · rename_i cs hcs
          cases hK
          unfold placesOf at hpl
          split at hpl
          · rename_i fs hu
            split at hpl
            · rename_i hpos
              cases hpl
              obtain ⟨r, hr1, hr2, hr3⟩ := fill_spec (Γ := Γ) (fun i => (fs.toList.map fun f => (f.offset, szOf P f.type))[i]?) ps vs _ v.cells cs hpre (by simp) hcs hl hp
              refine ⟨.agg r, ?_, fin hr2 hr3⟩
              have hm := run_mapM_sizes (P := P) w fs.toList hpos
              have hm' : (fs.mapM fun f => do pure (f.offset, ← sizeOf f.type) : Sem (Array (Nat × Nat))).run P w = .ok (fs.toList.map fun f => (f.offset, szOf P f.type)).toArray w := by
                rw [Array.mapM_eq_mapM_toList, Sem.run_map, hm]; rfl
              have hf' : Instr.fill (fun i => ((fs.toList.map fun f => (f.offset, szOf P f.type)).toArray)[i]?) v.cells vs = some r := by
                rw [← hr1]; congr 1; funext i; simp
              simp only [Instr.build, Sem.run_bind, hzr, Result.andThen_ok, run_underlying hu, hm']
              rw [hf']
              rfl
            · cases hpl
          · cases hpl
        · cases hK
      · split at hK
        · rename_i n e hu
          split at hK
          · rename_i hpos
            split at hK
            · rename_i cs hcs
              cases hK
              obtain ⟨r, hr1, hr2, hr3⟩ := fill_spec (Γ := Γ) _ ps vs _ v.cells cs hpre (by simp) hcs hl hp
              refine ⟨.agg r, ?_, fin hr2 hr3⟩
              simp only [Instr.build, Sem.run_bind, hzr, Result.andThen_ok, run_underlying hu, run_sizeOf_pos hpos w]
              rw [hr1]
              rfl
            · cases hK
          · cases hK
        · cases hK
    · cases hK
  · cases hK

theorem updV_splice : ∀ (r vs : List Value) (off : Nat), off + r.length ≤ vs.length → updV vs off r = vs.take off ++ r ++ vs.drop (off + r.length)
  | [], vs, off, h => by simp [updV]
  | u :: r, vs, off, h => by
    simp only [List.length_cons] at h
    rw [updV, updV_splice r (vs.set off u) (off + 1) (by simp; omega)]
    have e1 : (vs.set off u).take (off + 1) = vs.take off ++ [u] := by
      rw [List.take_succ_eq_append_getElem (by simp; omega)]
      simp only [List.take_set, List.getElem_set_self]
      rw [List.set_eq_of_length_le (by simp; omega)]
    have e2 : (vs.set off u).drop (off + 1 + r.length) = vs.drop (off + (u :: r).length) := by
      rw [List.drop_set, if_pos (by omega)]; simp; congr 1; omega
    rw [e1, e2]
    simp

theorem fill_seq (sz : Nat) : ∀ (vs : List Value) (k : Nat) (cells : Array Value), (∀ v ∈ vs, v.cells.size = sz) → (k + vs.length) * sz ≤ cells.size →
    ∃ r, Instr.fill (fun i => some (i * sz, sz)) cells ((vs.zipIdx k).map fun x => (x.2, x.1)) = some r ∧ r.toList = cells.toList.take (k * sz) ++ vs.flatMap (fun v => v.cells.toList) ++ cells.toList.drop ((k + vs.length) * sz)
  | [], k, cells, _, _ => ⟨cells, rfl, by simp⟩
  | v :: vs, k, cells, hs, hl => by
    have hv := hs v (by simp)
    simp only [List.length_cons] at hl
    have hk1 : (k + 1) * sz = k * sz + sz := by rw [Nat.add_mul, Nat.one_mul]
    have hle : (k + 1) * sz ≤ (k + (vs.length + 1)) * sz := Nat.mul_le_mul_right _ (by omega)
    have hv1 : (v.cells.zipIdx.foldl (fun cs (x : Value × Nat) => cs.setIfInBounds (k * sz + x.2) x.1) cells).toList = updV cells.toList (k * sz) v.cells.toList := by
      have := foldl_set (k * sz) v.cells.toList 0 cells
      rw [← Array.foldl_toList, Array.toList_zipIdx]
      exact this
    have hsp := updV_splice v.cells.toList cells.toList (k * sz) (by simp [hv]; omega)
    obtain ⟨r, hr, ht⟩ := fill_seq sz vs (k + 1) (v.cells.zipIdx.foldl (fun cs (x : Value × Nat) => cs.setIfInBounds (k * sz + x.2) x.1) cells) (fun x hx => hs x (by simp [hx]))
      (by rw [← Array.length_toList, hv1, updV_length]; simp; rw [show k + 1 + vs.length = k + (vs.length + 1) by omega]; exact hl)
    refine ⟨r, ?_, ?_⟩
    · rw [List.zipIdx_cons, List.map_cons]
      simp only [Instr.fill]
      rw [if_neg (by simp [hv]; omega)]
      exact hr
    · rw [ht, hv1, hsp]
      have hvl : v.cells.toList.length = sz := by simpa using hv
      have hA : (cells.toList.take (k * sz) ++ v.cells.toList).length = (k + 1) * sz := by
        simp only [List.length_append, List.length_take, hvl, Array.length_toList]; omega
      rw [List.take_append_of_le_length (by rw [hA]; exact Nat.le_refl _), ← hA, List.take_length]
      have hB : (k * sz + v.cells.toList.length) = (k + 1) * sz := by rw [hvl, hk1]
      rw [List.drop_append, List.drop_of_length_le (by rw [hA]; exact Nat.mul_le_mul_right _ (by omega)), List.nil_append, hB, List.drop_drop, hA]
      have hC : (k + 1) * sz + ((k + 1 + vs.length) * sz - (k + 1) * sz) = (k + (v :: vs).length) * sz := by
        have : (k + 1) * sz ≤ (k + 1 + vs.length) * sz := Nat.mul_le_mul_right _ (by omega)
        rw [List.length_cons, show k + (vs.length + 1) = k + 1 + vs.length by omega]; omega
      rw [hC]
      simp

theorem buildSlice_gives (h : Rel P base w0 Γ H w) {t : TypeId} {n : Nat} {ps : List (Nat × D)} {vs : List (Nat × Value)} {d : D} {H' : Heap} (hl : ps.length = vs.length)
    (hp : ∀ (i : Nat) p q, ps[i]? = some p → vs[i]? = some q → p.1 = q.1 ∧ Rep P Γ p.2 q.2) (hK : eBuildSlice P t n ps H = some (d, H')) : Gives P base w0 Γ w (Instr.buildSlice t n vs.toArray) d H' := by
  unfold eBuildSlice at hK
  split at hK
  · rename_i e hu
    split at hK
    case isFalse => cases hK
    rename_i hcc
    obtain ⟨hpos, h24, hidx, hzs, hall⟩ := hcc
    simp only [Option.some.injEq, Prod.mk.injEq] at hK
    obtain ⟨rfl, rfl⟩ := hK
    obtain ⟨z, hz⟩ := Option.isSome_iff_exists.1 hzs
    obtain ⟨inf, zv, hi, hzv, rfl⟩ := zeroD_spec hz
    have hn : ps.length = n := by have := congrArg List.length hidx; simpa using this
    -- the values, in their order
    have hvidx : vs = ((vs.map (·.2)).zipIdx 0).map fun x => (x.2, x.1) := by
      apply List.ext_getElem?
      intro i
      simp only [List.getElem?_map, List.getElem?_zipIdx]
      cases hv : vs[i]? with
      | none => simp
      | some q =>
        have hlt : i < ps.length := by rw [hl]; exact (List.getElem?_eq_some_iff.1 hv).1
        have hpi : ps[i]? = some ps[i] := List.getElem?_eq_getElem hlt
        have h1 := (hp i _ q hpi hv).1
        have h2 : (ps.map (·.1))[i]? = (List.range n)[i]? := by rw [hidx]
        rw [List.getElem?_map, hpi, List.getElem?_range (by omega)] at h2
        simp at h2
        simp
        exact Prod.ext (by rw [← h1, h2]) rfl
    have hpart : ∀ (i : Nat) p q, ps[i]? = some p → vs[i]? = some q → okPart p.2 = true ∧ (cellsD p.2).length = szOf P e ∧ Rep P Γ p.2 q.2 := fun i p q hpi hqi => by
      have := List.all_eq_true.1 hall p (List.mem_of_getElem? hpi)
      simp at this
      exact ⟨this.1, this.2, (hp i p q hpi hqi).2⟩
    have hvsz : ∀ v ∈ vs.map (·.2), v.cells.size = szOf P e := by
      intro v hv
      obtain ⟨q, hq, rfl⟩ := List.mem_map.1 hv
      obtain ⟨i, hi⟩ := List.mem_iff_getElem?.1 hq
      have hlt : i < ps.length := by rw [hl]; exact (List.getElem?_eq_some_iff.1 hi).1
      obtain ⟨c1, c2, c3⟩ := hpart i _ q (List.getElem?_eq_getElem hlt) hi
      have := (part_cells c1 c3).1.1
      simp at this
      omega
    have hrun : ∀ w : World, (Instr.buildSlice t n vs.toArray).run P w = .ok (.slice (some ⟨w.heap.size, 0, none⟩) n n) (w.alloc (.cells ((vs.map (·.2)).flatMap fun v => v.cells.toList).toArray e)) := by
      intro w
      have key : ∀ zc : Array Value, Instr.fill (fun i => some (i * szOf P e, szOf P e)) ((Array.range (n * szOf P e)).map (zc[· % zc.size]!)) vs = some ((vs.map (·.2)).flatMap fun v => v.cells.toList).toArray := by
        intro zc
        obtain ⟨r, hr, ht⟩ := fill_seq (szOf P e) (vs.map (·.2)) 0 ((Array.range (n * szOf P e)).map (zc[· % zc.size]!)) hvsz (by simp [← hl, hn])
        rw [← hvidx] at hr
        have hr2 : r = ((vs.map (·.2)).flatMap fun v => v.cells.toList).toArray := by
          apply Array.toList_inj.1
          rw [ht]
          simp [← hl, hn]
        rw [hr, hr2]
      simp only [Instr.buildSlice, Sem.run_bind, run_underlying hu, run_sizeOf_pos hpos, Result.andThen_ok]
      rw [if_neg (by omega)]
      split
      · simp only [Sem.run_bind, Sem.run_pure, Result.andThen_ok]
        rw [key]
        simp [newRow]
      · have hzr : (zeroValue e).run P w = .ok zv w := by simp [zeroValue, typeInfo, hi, hzv]
        simp only [Sem.run_bind, Sem.run_pure, Result.andThen_ok, hzr]
        rw [key]
        simp [newRow]
    have hflat : RepAll P Γ (flat (ps.map (·.2))) ((vs.map (·.2)).flatMap fun v => v.cells.toList) ∧ ∀ u ∈ (vs.map (·.2)).flatMap (fun v => v.cells.toList), u.oneCell' = true := by
      clear hvidx hidx hall hrun hvsz hn hz hzs h24
      induction ps generalizing vs with
      | nil =>
        cases vs with
        | nil => exact ⟨⟨rfl, by simp [flat]⟩, by simp⟩
        | cons => simp at hl
      | cons p ps ih =>
        cases vs with
        | nil => simp at hl
        | cons q vs =>
          obtain ⟨c1, c2, c3⟩ := hpart 0 p q rfl rfl
          obtain ⟨d1, d2⟩ := part_cells c1 c3
          obtain ⟨i1, i2⟩ := ih (vs := vs) (by simpa using hl) (fun i p q hp' hq' => hp (i + 1) p q (by simpa using hp') (by simpa using hq')) (fun i p q hp' hq' => hpart (i + 1) p q (by simpa using hp') (by simpa using hq'))
          refine ⟨⟨by simp [flat_cons, d1.1, i1.1], fun i d v hd hv => ?_⟩, fun u hu => ?_⟩
          · simp only [List.map_cons, flat_cons, List.flatMap_cons, List.getElem?_append] at hd hv
            rw [d1.1] at hd
            split at hd
            · rename_i hlt
              rw [if_pos hlt] at hv
              exact d1.2 i d v hd hv
            · rename_i hlt
              rw [if_neg hlt] at hv
              exact i1.2 _ d v hd hv
          · simp only [List.map_cons, List.flatMap_cons, List.mem_append] at hu
            exact hu.elim (d2 u) (i2 u)
    have hszs : ∀ d ∈ ps.map (·.2), (cellsD d).length = szOf P e := by
      intro d hd
      obtain ⟨p, hp', rfl⟩ := List.mem_map.1 hd
      have := List.all_eq_true.1 hall p hp'
      simp at this
      exact this.2
    have hlen : ((vs.map (·.2)).flatMap fun v => v.cells.toList).length = n * szOf P e := by
      rw [← hflat.1.1, flat_length hszs]; simp [hn]
    obtain ⟨Γ', hle, hrep, hR⟩ := owned h e n n _ (ps.map (·.2)) (by simp [hn]) (Nat.le_refl _) (by
        have : n * 1 ≤ n * szOf P e := Nat.mul_le_mul_left _ hpos
        simp only [maxLen]; omega) hszs hlen
      ⟨by rw [hflat.1.1]; exact Nat.le_refl _, fun i d v hd hv => ⟨hflat.1.2 i d v hd hv, hflat.2 v (List.mem_of_getElem? hv)⟩⟩
    exact ⟨_, _, Γ', hrun w, hle, hR, hrep⟩
  · cases hK
end
end Go.Pv
