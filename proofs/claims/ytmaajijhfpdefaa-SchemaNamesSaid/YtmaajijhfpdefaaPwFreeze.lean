/- What is not written to any more is known for good. -/
import Derived.Test.YtmaajijhfpdefaaPwUse
namespace Go.Pw
open Go.RowKit
/-! ### What is not written to any more is known for good -/
inductive FrzD (P : Program) (i : Nat) (cs : List D) : D → D → Prop
  | same (d : D) : FrzD P i cs d d
  | arr (e : TypeId) (off len : Nat) (l : List D) (hl : l.length = len) (hs : ∀ d ∈ l, (cellsD d).length = szOf P e) (hf : flat l = (cs.drop off).take (len * szOf P e)) : FrzD P i cs (.arr i e off len) (.slice 0 e l)
  | obj (off : Nat) : FrzD P i cs (.ptr i off) (.obj cs off)
  | agg (xs ys : List D) (hl : xs.length = ys.length) (hr : ∀ (k : Nat) d d', xs[k]? = some d → ys[k]? = some d' → FrzD P i cs d d') : FrzD P i cs (.agg xs) (.agg ys)
  | tup (xs ys : List D) (hl : xs.length = ys.length) (hr : ∀ (k : Nat) d d', xs[k]? = some d → ys[k]? = some d' → FrzD P i cs d d') : FrzD P i cs (.tup xs) (.tup ys)

theorem cell_of_heap {w : World} {b : Nat} {vs : Array Value} {T : TypeId} {fr : Nat × Nat} (h : w.heap[b]? = some (.cells vs T fr)) (j : Nat) : w.cell? ⟨b, j, none⟩ = vs[j]? := by
  simp [World.cell?, h]

theorem Rel.freeze {P : Program} {base : Nat} {w0 w : World} {Γ : Gh} {H : Heap} {i : Nat} {cs : List D} (h : Rel P base w0 Γ H w) (hi : H i = some (.cells cs)) :
    ∃ Γ', Γ.le Γ' ∧ Rel P base w0 Γ' (H.put i none) w ∧ ∀ d d' v, Rep P Γ d v → FrzD P i cs d d' → Rep P Γ' d' v := by
  obtain ⟨h2, b, vs, T, fr, hbx, hba, hh, hlen, hfr, hcs⟩ := h.boxOf i cs hi
  let S : Addr → Value → Prop := fun a v => ∃ j d, cs[j]? = some d ∧ a = ⟨b, j, none⟩ ∧ vs[j]? = some v
  have hsub : ∀ j o, (H.put i none) j = some o → H j = some o ∧ j ≠ i := by
    intro j o hj
    by_cases e : j = i
    · subst e; simp at hj
    · rw [Heap.put_ne _ _ e] at hj; exact ⟨hj, e⟩
  have hR : Rel P base w0 Γ (H.put i none) w := h.sub fun j o hj => (hsub j o hj).1
  refine ⟨Γ.know S, Γ.know_le S, hR.learn S ?_ ?_ ?_, ?_⟩
  · rintro a v ⟨j, d, hj, rfl, hv⟩
    obtain ⟨v', hv', _, h1⟩ := hcs j d hj
    rw [hv] at hv'; cases hv'
    exact ⟨by rw [cell_of_heap hh, hv], h1⟩
  · rintro a v ⟨j, d, hj, rfl, hv⟩ k cs' hk hbk
    obtain ⟨hk, hne⟩ := hsub k _ hk
    exact hne (h.boxInj k i cs' cs b hk hi hbk hbx)
  · rintro a v ⟨j, d, hj, rfl, hv⟩ g n c e hg ht
    obtain ⟨hg, hne⟩ := hsub g _ hg
    exact absurd hbx (h.tokBox g i cs b n c e hg hi ht)
  · intro d d' v hr hf
    induction hf generalizing v with
    | same d => exact hr.mono (Γ.know_le S)
    | arr e off len l hl hs hf =>
      cases hr with
      | arr _ _ _ _ b' cap hb' hc hm =>
        obtain rfl := h.boxFun i _ _ hb' hbx
        have hat : ∀ (k : Nat) d, (flat l)[k]? = some d → cs[off + k]? = some d := by
          intro k d hk
          rw [hf, List.getElem?_take, List.getElem?_drop] at hk
          split at hk
          · exact hk
          · cases hk
        have := Rep.slice (P := P) (Γ := Γ.know S) 0 e l (some ⟨b', off, none⟩) ⟨b', off, none⟩ cap (fun k => vs.getD (off + k) undef) (by decide) (by omega) hm (.inr rfl) (by omega) hs
          (fun k d hk => by
            obtain ⟨v', hv', _, _⟩ := hcs _ d (hat k d hk)
            refine .inr ⟨off + k, d, hat k d hk, by rw [Addr.add_lit], ?_⟩
            simp [hv'])
          (fun k d hk => by
            obtain ⟨v', hv', hr', _⟩ := hcs _ d (hat k d hk)
            have e : vs.getD (off + k) undef = v' := by simp [hv']
            rw [e]; exact hr'.mono (Γ.know_le S))
        rwa [hl] at this
    | obj off =>
      cases hr with
      | ptr _ _ b' hb' =>
        obtain rfl := h.boxFun i _ _ hb' hbx
        have := Rep.obj (P := P) (Γ := Γ.know S) cs off ⟨b', 0, none⟩ (fun k => vs.getD k undef)
          (fun k d hk => by
            obtain ⟨v', hv', _, _⟩ := hcs _ d hk
            exact .inr ⟨k, d, hk, by rw [Addr.add_lit, Nat.zero_add], by simp [hv']⟩)
          (fun k d hk => by
            obtain ⟨v', hv', hr', _⟩ := hcs _ d hk
            have e : vs.getD k undef = v' := by simp [hv']
            rw [e]; exact hr'.mono (Γ.know_le S))
        rwa [Addr.add_lit, Nat.zero_add] at this
    | agg xs ys hl hr' ih =>
      cases hr with
      | agg _ us hu hru =>
        refine .agg ys us (by omega) fun k d' v hd hv => ?_
        have hk : k < xs.length := by have := (List.getElem?_eq_some_iff.1 hd).1; omega
        exact ih k xs[k] d' (List.getElem?_eq_getElem hk) hd v (hru k _ v (List.getElem?_eq_getElem hk) hv)
    | tup xs ys hl hr' ih =>
      cases hr with
      | tup _ us hu hru =>
        refine .tup ys us (by omega) fun k d' v hd hv => ?_
        have hk : k < xs.length := by have := (List.getElem?_eq_some_iff.1 hd).1; omega
        exact ih k xs[k] d' (List.getElem?_eq_getElem hk) hd v (hru k _ v (List.getElem?_eq_getElem hk) hv)

/-- A call after which a box is not written to any more. -/
theorem PCalls.freeze {P : Program} {f : FuncId} {ds : List D} {H : Heap} {R : D → Heap → Prop} (h : PCalls P f ds H fun d H' => ∃ i cs d', H' i = some (.cells cs) ∧ FrzD P i cs d d' ∧ R d' (H'.put i none)) : PCalls P f ds H R :=
  ⟨h.1, fun base w0 Γ w args hR hA => (h.2 base w0 Γ w args hR hA).mono fun e w' ⟨v, Γ', H', d, x1, x2, x3, x4, i, cs, d', y1, y2, y3⟩ => by
    obtain ⟨Γ'', z1, z2, z3⟩ := x3.freeze y1
    exact ⟨v, Γ'', _, d', x1, x2.trans z1, z2, z3 d d' v x4 y2, y3⟩⟩

/-- Rows that nobody may append to any more. -/
def calmN : Nat → D → D
  | 0, d => d
  | n + 1, .slice g e l => .slice (if 2 ≤ g then 0 else g) e (l.map (calmN n))
  | n + 1, .agg cs => .agg (cs.map (calmN n))
  | n + 1, .tup cs => .tup (cs.map (calmN n))
  | _ + 1, d => d
theorem cells_calm (n : Nat) (d : D) : ∃ m, cellsD (calmN n d) = (cellsD d).map (calmN m) := by
  cases n with
  | zero => exact ⟨0, by cases d <;> simp [calmN, cellsD]⟩
  | succ n => cases d with
    | agg cs => exact ⟨n, rfl⟩
    | _ => exact ⟨n + 1, rfl⟩
theorem flat_calm (n : Nat) : ∀ (l : List D) (i : Nat) (d : D), (flat (l.map (calmN n)))[i]? = some d → ∃ m x, (flat l)[i]? = some x ∧ d = calmN m x
  | [], i, d, h => by simp [flat] at h
  | y :: l, i, d, h => by
    rw [List.map_cons, flat_cons] at h
    obtain ⟨m, hm⟩ := cells_calm n y
    have hlen : (cellsD (calmN n y)).length = (cellsD y).length := by rw [hm, List.length_map]
    rw [flat_cons]
    rcases Nat.lt_or_ge i (cellsD y).length with hi | hi
    · rw [List.getElem?_append_left (by omega), hm, List.getElem?_map] at h
      rw [List.getElem?_append_left hi]
      obtain ⟨x, hx, rfl⟩ := Option.map_eq_some_iff.1 h
      exact ⟨m, x, hx, rfl⟩
    · rw [List.getElem?_append_right (by omega), hlen] at h
      rw [List.getElem?_append_right hi]
      exact flat_calm n l _ d h
theorem Rep.calm {P : Program} {Γ : Gh} : ∀ {d : D} {v : Value} (_ : Rep P Γ d v) (n : Nat), Rep P Γ (calmN n d) v := by
  intro d v h
  induction h with
  | undef v => intro n; cases n <;> exact .undef v
  | val v => intro n; cases n <;> exact .val v
  | nil e => intro n; cases n <;> exact .nil e
  | slice g e l a ad cap vs hg hc hm ha ht hs hk hr ih =>
    intro n
    cases n with
    | zero => exact .slice g e l a ad cap vs hg hc hm ha ht hs hk hr
    | succ n =>
      have := Rep.slice (P := P) (Γ := Γ) (if 2 ≤ g then 0 else g) e (l.map (calmN n)) a ad cap vs (by split <;> omega) (by simpa using hc) hm (by simpa using ha) (fun h => by split at h <;> omega)
        (fun d hd => by
          obtain ⟨x, hx, rfl⟩ := List.mem_map.1 hd
          obtain ⟨m, hm⟩ := cells_calm n x
          rw [hm, List.length_map]; exact hs x hx)
        (fun i d hd => by obtain ⟨m, x, hx, _⟩ := flat_calm n l i d hd; exact hk i x hx)
        (fun i d hd => by obtain ⟨m, x, hx, rfl⟩ := flat_calm n l i d hd; exact ih i x hx m)
      rwa [List.length_map] at this
  | arr i e off len b cap hb hc hm => intro n; cases n <;> exact .arr i e off len b cap hb hc hm
  | agg cs vs hl hr ih =>
    intro n
    cases n with
    | zero => exact .agg cs vs hl hr
    | succ n =>
      refine .agg _ vs (by simpa using hl) fun i d v hd hv => ?_
      rw [List.getElem?_map] at hd
      cases hx : cs[i]? with
      | none => simp [hx] at hd
      | some x => simp [hx] at hd; subst hd; exact ih i x v hx hv n
  | tup cs vs hl hr ih =>
    intro n
    cases n with
    | zero => exact .tup cs vs hl hr
    | succ n =>
      refine .tup _ vs (by simpa using hl) fun i d v hd hv => ?_
      rw [List.getElem?_map] at hd
      cases hx : cs[i]? with
      | none => simp [hx] at hd
      | some x => simp [hx] at hd; subst hd; exact ih i x v hx hv n
  | ptr i off b hb => intro n; cases n <;> exact .ptr i off b hb
  | obj cs off ad vs hk hr ih => intro n; cases n <;> exact .obj cs off ad vs hk hr
  | clo fn first cap v1 v2 h1 h2 r1 r2 i1 i2 => intro n; cases n <;> exact .clo fn first cap v1 v2 h1 h2 r1 r2
  | ifc t d v h ih => intro n; cases n <;> exact .ifc t d v h
theorem PCalls.calm {P : Program} {f : FuncId} {ds : List D} {H : Heap} {R : D → Heap → Prop} (n : Nat) (h : PCalls P f ds H fun d H' => R (calmN n d) H') : PCalls P f ds H R :=
  ⟨h.1, fun base w0 Γ w args hR hA => (h.2 base w0 Γ w args hR hA).mono fun e w' ⟨v, Γ', H', d, x1, x2, x3, x4, y⟩ => ⟨v, Γ', H', _, x1, x2, x3, x4.calm n, y⟩⟩
/-- What a call leaves in the heap beyond what was there may be forgotten. -/
theorem PCalls.drop {P : Program} {f : FuncId} {ds : List D} {H : Heap} {R : D → Heap → Prop} (h : PCalls P f ds H fun d H' => ∃ H'', (∀ i o, H'' i = some o → H' i = some o) ∧ R d H'') : PCalls P f ds H R :=
  ⟨h.1, fun base w0 Γ w args hR hA => (h.2 base w0 Γ w args hR hA).mono fun e w' ⟨v, Γ', H', d, x1, x2, x3, x4, H'', y1, y2⟩ => ⟨v, Γ', H'', d, x1, x2, x3.sub y1, x4, y2⟩⟩
end Go.Pw
