/- A part of the proof: functions of the program, walked, or what operations come to. -/
import Derived.Test.YtpedcchnhjffpaaGreatPvUse
namespace Go.Pv
open Go.RowKit
/-! ### What is not written to any more, told for good -/
def mapO (f : D → Option D) : List D → Option (List D)
  | [] => some []
  | d :: r => match f d with
    | some a => match mapO f r with
      | some b => some (a :: b)
      | none => none
    | none => none
def chunk (sz : Nat) : Nat → List D → List D
  | 0, _ => []
  | n + 1, l => (if sz = 1 then l.headD .undef else .agg (l.take sz)) :: chunk sz n (l.drop sz)
def fz (P : Program) : Nat → Heap → D → Option D
  | 0, _, _ => none
  | n + 1, H, d => match d with
    | .undef => some .undef
    | .val v => some (.val v)
    | .slice g e l => match mapO (fz P n H) l with
      | some l' => some (.slice g e l')
      | none => none
    | .agg cs => match mapO (fz P n H) cs with
      | some cs' => some (.agg cs')
      | none => none
    | .tup cs => match mapO (fz P n H) cs with
      | some cs' => some (.tup cs')
      | none => none
    | .ifc t d => match fz P n H d with
      | some d' => some (.ifc t d')
      | none => none
    | .obj cs off => match mapO (fz P n H) cs with
      | some cs' => some (.obj cs' off)
      | none => none
    | .row i e off len => match H.get i with
      | some (.row e' l) => if e = e' ∧ off + len ≤ l.length then match mapO (fz P n H) ((l.drop off).take len) with
        | some l' => some (.slice (if len = 0 then 3 else 0) e l')
        | none => none else none
      | _ => none
    | .arr i e off len => match H.get i with
      | some (.cells cs) => if 0 < szOf P e ∧ off + len * szOf P e ≤ cs.length then match mapO (fz P n H) (chunk (szOf P e) len (cs.drop off)) with
        | some l' => some (.slice (if len = 0 then 3 else 0) e l')
        | none => none else none
      | _ => none
    | .ptr i off => match H.get i with
      | some (.cells cs) => match mapO (fz P n H) cs with
        | some cs' => some (.obj cs' off)
        | none => none
      | _ => none
    | .clo fn a b => match mapO (fz P n H) a with
      | some a' => match mapO (fz P n H) b with
        | some b' => some (.clo fn a' b')
        | none => none
      | none => none
    | _ => none

theorem mapO_len {f : D → Option D} : ∀ {l l' : List D}, mapO f l = some l' → l'.length = l.length
  | [], l', h => by cases h; rfl
  | d :: r, l', h => by
    simp only [mapO] at h
    split at h
    · split at h
      · rename_i hb; cases h; simp [mapO_len hb]
      · cases h
    · cases h
theorem mapO_get {f : D → Option D} : ∀ {l l' : List D}, mapO f l = some l' → ∀ (i : Nat) d', l'[i]? = some d' → ∃ d, l[i]? = some d ∧ f d = some d'
  | [], l', h, i, d', hi => by cases h; cases hi
  | d :: r, l', h, i, d', hi => by
    simp only [mapO] at h
    split at h
    · rename_i a ha
      split at h
      · rename_i b hb
        cases h
        cases i with
        | zero => cases hi; exact ⟨d, rfl, ha⟩
        | succ i => exact mapO_get hb i d' hi
      · cases h
    · cases h
/-- The cells of what is told anew are the cells, told anew. -/
theorem cells_fz {P : Program} {n : Nat} {H : Heap} {d d' : D} (h : fz P n H d = some d') : (cellsD d').length = (cellsD d).length ∧ ∀ (i : Nat) x', (cellsD d')[i]? = some x' → ∃ x m, m ≤ n ∧ (cellsD d)[i]? = some x ∧ fz P m H x = some x' := by
  have one : ∀ {y : D}, cellsD d = [d] → cellsD d' = [d'] → (cellsD d').length = (cellsD d).length ∧ ∀ (i : Nat) x', (cellsD d')[i]? = some x' → ∃ x m, m ≤ n ∧ (cellsD d)[i]? = some x ∧ fz P m H x = some x' := fun {y} h1 h2 => by
    rw [h1, h2]
    refine ⟨rfl, fun i x' hi => ?_⟩
    cases i with
    | zero => cases hi; exact ⟨d, n, Nat.le_refl _, rfl, h⟩
    | succ i => cases hi
  cases n with
  | zero => cases h
  | succ n =>
    simp only [fz] at h
    cases d with
    | agg cs =>
      simp only at h
      split at h
      · rename_i cs' hm
        cases h
        exact ⟨mapO_len hm, fun i x' hi => by obtain ⟨x, h1, h2⟩ := mapO_get hm i x' hi; exact ⟨x, n, Nat.le_succ _, h1, h2⟩⟩
      · cases h
    | undef => cases h; exact one (y := .undef) rfl rfl
    | val v => cases h; exact one (y := .undef) rfl rfl
    | slice g e l => simp only at h; split at h <;> cases h; exact one (y := .undef) rfl rfl
    | tup l => simp only at h; split at h <;> cases h; exact one (y := .undef) rfl rfl
    | ifc t x => simp only at h; split at h <;> cases h; exact one (y := .undef) rfl rfl
    | obj cs off => simp only at h; split at h <;> cases h; exact one (y := .undef) rfl rfl
    | row i e off len =>
      simp only at h
      split at h
      · split at h
        · split at h <;> cases h; exact one (y := .undef) rfl rfl
        · cases h
      · cases h
    | arr i e off len =>
      simp only at h
      split at h
      · split at h
        · split at h <;> cases h; exact one (y := .undef) rfl rfl
        · cases h
      · cases h
    | ptr i off =>
      simp only at h
      split at h
      · split at h <;> cases h; exact one (y := .undef) rfl rfl
      · cases h
    | rptr i e k c => cases h
    | clo f a b =>
      simp only at h
      split at h
      · split at h <;> cases h; exact one (y := .undef) rfl rfl
      · cases h
    | mp i => cases h
theorem flat_fz {P : Program} {n : Nat} {H : Heap} : ∀ {l l' : List D}, mapO (fz P n H) l = some l' → (flat l').length = (flat l).length ∧ ∀ (i : Nat) x', (flat l')[i]? = some x' → ∃ x m, m ≤ n ∧ (flat l)[i]? = some x ∧ fz P m H x = some x'
  | [], l', h => by cases h; exact ⟨rfl, fun i x' hi => by cases hi⟩
  | d :: r, l', h => by
    simp only [mapO] at h
    split at h
    · rename_i a ha
      split at h
      · rename_i b hb
        cases h
        obtain ⟨c1, c2⟩ := cells_fz ha
        obtain ⟨f1, f2⟩ := flat_fz hb
        rw [flat_cons, flat_cons]
        refine ⟨by simp [c1, f1], fun i x' hi => ?_⟩
        rw [List.getElem?_append] at hi
        rw [List.getElem?_append]
        split at hi
        · rename_i hlt
          rw [if_pos (by omega)]
          exact c2 i x' hi
        · rename_i hlt
          rw [if_neg (by omega), ← c1]
          exact f2 _ x' hi
      · cases h
    · cases h
theorem flat_chunk (sz : Nat) (hs : 0 < sz) : ∀ (n : Nat) (l : List D), n * sz ≤ l.length → (∀ d ∈ l, cellsD d = [d]) → flat (chunk sz n l) = l.take (n * sz) ∧ ∀ d ∈ chunk sz n l, (cellsD d).length = sz
  | 0, l, _, _ => ⟨by simp [chunk, flat], fun d hd => by cases hd⟩
  | n + 1, l, hl, h1 => by
    rw [Nat.add_mul, Nat.one_mul] at hl
    obtain ⟨i1, i2⟩ := flat_chunk sz hs n (l.drop sz) (by simp; omega) (fun d hd => h1 d (List.mem_of_mem_drop hd))
    have hd : cellsD (if sz = 1 then l.headD .undef else .agg (l.take sz)) = l.take sz := by
      split
      · rename_i e
        subst e
        cases l with
        | nil => simp at hl
        | cons a l => simpa using h1 a (by simp)
      · rfl
    constructor
    · rw [chunk, flat_cons, hd, i1, Nat.add_mul, Nat.one_mul, Nat.add_comm (n * sz) sz, List.take_add]
    · intro d hm
      rw [chunk, List.mem_cons] at hm
      rcases hm with rfl | hm
      · rw [hd]; simp; omega
      · exact i2 d hm

/-- All cells of objects are known. -/
structure Told (P : Program) (H : Heap) (Γ : Gh) : Prop where
  row : ∀ i e l x, H.get i = some (.row e l) → Γ.g i = some x → x.e = e ∧ x.cap ≤ maxLen ∧ l.length ≤ x.cap ∧ (∀ d ∈ l, (cellsD d).length = szOf P e) ∧ ∃ vs : Nat → Value, ∀ (j : Nat) d, (flat l)[j]? = some d → Γ.K ((⟨x.b, x.o, none⟩ : Addr).add j) (vs j) ∧ Rep P Γ d (vs j)
  box : ∀ i cs x, H.get i = some (.cells cs) → Γ.g i = some x → ∃ vs : Nat → Value, ∀ (j : Nat) d, cs[j]? = some d → Γ.K ((⟨x.b, 0, none⟩ : Addr).add j) (vs j) ∧ Rep P Γ d (vs j) ∧ cellsD d = [d]
theorem fz_rep {P : Program} {H : Heap} {Γ : Gh} (hT : Told P H Γ) : ∀ (n : Nat) (d d' : D) (v : Value), fz P n H d = some d' → Rep P Γ d v → Rep P Γ d' v := by
  intro n
  induction n using Nat.strongRecOn with
  | _ n ih =>
    intro d d' v h hr
    cases n with
    | zero => cases h
    | succ n =>
      have ih' : ∀ m, m ≤ n → ∀ d d' v, fz P m H d = some d' → Rep P Γ d v → Rep P Γ d' v := fun m hm => ih m (by omega)
      have elt : ∀ {cs cs' : List D} {vs : List Value}, mapO (fz P n H) cs = some cs' → (∀ (i : Nat) d v, cs[i]? = some d → vs[i]? = some v → Rep P Γ d v) → ∀ (i : Nat) d v, cs'[i]? = some d → vs[i]? = some v → Rep P Γ d v := by
        intro cs cs' vs hm hq i d v hd hv
        obtain ⟨x, h1, h2⟩ := mapO_get hm i d hd
        exact ih' n (Nat.le_refl _) x d v h2 (hq i x v h1 hv)
      -- a slice out of cells that are known
      have sl : ∀ {l l' : List D} {e : TypeId} {len cap : Nat} {a : Option Addr} {ad : Addr} {vs : Nat → Value} (g : Nat), mapO (fz P n H) l = some l' → l.length = len → g ≠ 1 → (g = 2 → cap = len) → (g = 3 → a.isSome = true) → len ≤ cap → cap ≤ maxLen → (l = [] ∨ a = some ad) →
          (∀ d ∈ l, (cellsD d).length = szOf P e) → (∀ (i : Nat) d, (flat l)[i]? = some d → Γ.K (ad.add i) (vs i)) → (∀ (i : Nat) d, (flat l)[i]? = some d → Rep P Γ d (vs i)) → Rep P Γ (.slice g e l') (.slice a len cap) := by
        intro l l' e len cap a ad vs g hm hlen g1 g2 g3 hc hx ha hs hk hq
        have hl' := mapO_len hm
        obtain ⟨f1, f2⟩ := flat_fz hm
        have hsz : ∀ d ∈ l', (cellsD d).length = szOf P e := fun d hd => by
          obtain ⟨i, hi⟩ := List.getElem?_of_mem hd
          obtain ⟨x, h1, h2⟩ := mapO_get hm i d hi
          rw [(cells_fz h2).1]
          exact hs x (List.mem_of_getElem? h1)
        have := Rep.slice (P := P) (Γ := Γ) g e l' a ad cap vs g1 (by rw [hl', hlen]; exact g2) g3 (by rw [hl', hlen]; exact hc) hx (ha.imp (fun e => by subst e; cases hm; rfl) id) hsz
          (fun i d hi => by obtain ⟨x, m, _, h2, _⟩ := f2 i d hi; exact hk i x h2)
          (fun i d hi => by obtain ⟨x, m, h1, h2, h3⟩ := f2 i d hi; exact ih' m h1 x d _ h3 (hq i x h2))
        rwa [hl', hlen] at this
      simp only [fz] at h
      cases hr with
      | undef v => cases h; exact .undef v
      | val v => cases h; exact .val v
      | nil e => cases h; exact .nil e
      | slice g e l a ad cap vs hg h2 h3 hc hm ha hs hk hr =>
        simp only at h
        split at h
        · rename_i l' hm'
          cases h
          exact sl g hm' rfl hg h2 h3 hc hm ha hs hk hr
        · cases h
      | agg cs vs hl hr =>
        simp only at h
        split at h
        · rename_i cs' hm; cases h; exact .agg cs' vs ((mapO_len hm).trans hl) (elt hm hr)
        · cases h
      | tup cs vs hl hr =>
        simp only at h
        split at h
        · rename_i cs' hm; cases h; exact .tup cs' vs ((mapO_len hm).trans hl) (elt hm hr)
        · cases h
      | ifc t d v hr =>
        simp only at h
        split at h
        · rename_i d' hd; cases h; exact .ifc t d' v (ih' n (Nat.le_refl _) _ _ _ hd hr)
        · cases h
      | obj cs off ad vs hk hr =>
        simp only at h
        split at h
        · rename_i cs' hm
          cases h
          refine .obj cs' off ad vs (fun i d hi => ?_) (fun i d hi => ?_)
          · obtain ⟨x, h1, h2⟩ := mapO_get hm i d hi; exact hk i x h1
          · obtain ⟨x, h1, h2⟩ := mapO_get hm i d hi; exact ih' n (Nat.le_refl _) x d _ h2 (hr i x h1)
        · cases h
      | row i e off len x hb he hc hm =>
        simp only at h
        split at h
        · rename_i e' l hi
          split at h
          · rename_i hh
            obtain ⟨rfl, hle⟩ := hh
            split at h
            · rename_i l' hm'
              cases h
              obtain ⟨t1, t2, t3, t4, vs, t5⟩ := hT.row i e l x hi hb
              have hlen : ((l.drop off).take len).length = len := by simp; omega
              have hfl : ∀ (j : Nat) d, (flat ((l.drop off).take len))[j]? = some d → (flat l)[off * szOf P e + j]? = some d := by
                intro j d hd
                have t4' : ∀ d ∈ l.drop off, (cellsD d).length = szOf P e := fun d hd => t4 d (List.mem_of_mem_drop hd)
                rw [flat_take t4', flat_drop t4, List.getElem?_take, List.getElem?_drop] at hd
                split at hd
                · exact hd
                · cases hd
              refine sl (ad := ⟨x.b, x.o + off * szOf P e, none⟩) (vs := fun j => vs (off * szOf P e + j)) _ hm' hlen (by split <;> omega) (by split <;> omega) (fun _ => rfl) (by omega) (by omega) (.inr rfl)
                (fun d hd => t4 d (List.mem_of_mem_drop (List.mem_of_mem_take hd))) (fun j d hd => ?_) (fun j d hd => (t5 _ d (hfl j d hd)).2)
              have := (t5 _ d (hfl j d hd)).1
              rw [Addr.add_lit] at this ⊢
              rwa [Nat.add_assoc]
            · cases h
          · cases h
        · cases h
      | arr i e off len x cap hb hc hm =>
        simp only at h
        split at h
        · rename_i cs hi
          split at h
          · rename_i hh
            obtain ⟨hsz, hle⟩ := hh
            split at h
            · rename_i l' hm'
              cases h
              obtain ⟨vs, t5⟩ := hT.box i cs x hi hb
              obtain ⟨c1, c2⟩ := flat_chunk (szOf P e) hsz len (cs.drop off) (by simp; omega) (fun d hd => by
                obtain ⟨j, hj⟩ := List.getElem?_of_mem (List.mem_of_mem_drop hd)
                exact (t5 j d hj).2.2)
              have hlen : (chunk (szOf P e) len (cs.drop off)).length = len := by
                have : ∀ n l, (chunk (szOf P e) n l).length = n := fun n => by
                  induction n with
                  | zero => intro l; rfl
                  | succ n ih => intro l; simp [chunk, ih]
                exact this _ _
              have hfl : ∀ (j : Nat) d, (flat (chunk (szOf P e) len (cs.drop off)))[j]? = some d → cs[off + j]? = some d := by
                intro j d hd
                rw [c1, List.getElem?_take, List.getElem?_drop] at hd
                split at hd
                · exact hd
                · cases hd
              refine sl (ad := ⟨x.b, off, none⟩) (vs := fun j => vs (off + j)) _ hm' hlen (by split <;> omega) (by split <;> omega) (fun _ => rfl) hc hm (.inr rfl) c2 (fun j d hd => ?_) (fun j d hd => (t5 _ d (hfl j d hd)).2.1)
              have := (t5 _ d (hfl j d hd)).1
              rw [Addr.add_lit, Nat.zero_add] at this
              rwa [Addr.add_lit]
            · cases h
          · cases h
        · cases h
      | ptr i off x hb =>
        simp only at h
        split at h
        · rename_i cs hi
          split at h
          · rename_i cs' hm'
            cases h
            obtain ⟨vs, t5⟩ := hT.box i cs x hi hb
            have : (⟨x.b, off, none⟩ : Addr) = (⟨x.b, 0, none⟩ : Addr).add off := by rw [Addr.add_lit, Nat.zero_add]
            rw [this]
            refine .obj cs' off ⟨x.b, 0, none⟩ vs (fun j d hj => ?_) (fun j d hj => ?_)
            · obtain ⟨y, h1, h2⟩ := mapO_get hm' j d hj; exact (t5 j y h1).1
            · obtain ⟨y, h1, h2⟩ := mapO_get hm' j d hj; exact ih' n (Nat.le_refl _) y d _ h2 (t5 j y h1).2.1
          · cases h
        · cases h
      | rptr i e k c x hb he => cases h
      | clo fn first cap v1 v2 h1 h2 r1 r2 =>
        simp only at h
        split at h
        · rename_i a' ha
          split at h
          · rename_i b' hb
            cases h
            exact .clo fn a' b' v1 v2 ((mapO_len ha).trans h1) ((mapO_len hb).trans h2) (elt ha r1) (elt hb r2)
          · cases h
        · cases h
      | mp i x hb => cases h
theorem Rel.freezeAll {P : Program} {base : Prot} {w0 : World} {Γ : Gh} {H : Heap} {w : World} (h : Rel P base w0 Γ H w) : ∃ Γ', Γ.le Γ' ∧ Rel P base w0 Γ' ⟨.nil, H.nx, H.G⟩ w ∧ Told P H Γ' := by
  let S : Addr → Value → Prop := fun a v => ∃ i o x vs T fr, H.get i = some o ∧ Γ.g i = some x ∧ a.block = x.b ∧ a.spot = none ∧ w.heap[x.b]? = some (.cells vs T fr) ∧ vs[a.off]? = some v ∧ v.oneCell' = true
  have h0 : Rel P base w0 Γ ⟨.nil, H.nx, H.G⟩ w := h.sub (fun i o hi => by cases hi) (Nat.le_refl _) (fun g cs hg => hg)
  have h1 : Rel P base w0 (Γ.know S) ⟨.nil, H.nx, H.G⟩ w := h0.learn S (by
    rintro ⟨b, off, spot⟩ v ⟨i, o, x, vs, T, fr, hi, hx, e1, e2, e3, e4, e5⟩
    simp only at e1 e2 e4
    subst e1; subst e2
    exact ⟨by rw [cell_of_row w x.b off vs T fr e3]; exact e4, e5⟩) (fun a v _ i o x hi => by cases hi) (by
    rintro a v ⟨i, o, x, vs, T, fr, hi, hx, e1, _⟩ hs
    rw [e1] at hs
    exact absurd hs (h.objAt hi hx).1)
  refine ⟨Γ.know S, Γ.know_le S, h1, ?_, ?_⟩
  · intro i e l x hi hx
    obtain ⟨_, _, k1, k2, k3, k4, vs, T, fr, x3, x4, x5, x6⟩ := h.objAt hi hx
    refine ⟨k1, k2, k3, k4, fun j => vs.getD (x.o + j) undef, fun j d hj => ?_⟩
    obtain ⟨v, hv, hr, ho⟩ := x6 j d hj
    have : vs.getD (x.o + j) undef = v := by simp [hv]
    simp only [this]
    exact ⟨.inr ⟨i, _, x, vs, T, fr, hi, hx, by rw [Addr.add_lit], by rw [Addr.add_lit], x3, by rw [Addr.add_lit]; exact hv, ho⟩, hr.mono (Γ.know_le S)⟩
  · intro i cs x hi hx
    obtain ⟨_, _, vs, T, fr, x3, x4, x5, x6⟩ := h.objAt hi hx
    refine ⟨fun j => vs.getD j undef, fun j d hj => ?_⟩
    obtain ⟨v, hv, hr, ho⟩ := x6 j d hj
    have : vs.getD j undef = v := by simp [hv]
    simp only [this]
    refine ⟨.inr ⟨i, _, x, vs, T, fr, hi, hx, by rw [Addr.add_lit], by rw [Addr.add_lit], x3, by rw [Addr.add_lit, Nat.zero_add]; exact hv, ho⟩, hr.mono (Γ.know_le S), ?_⟩
    cases d <;> first | rfl | skip
    cases hr
    simp [Value.oneCell'] at ho
/-- What a call hands back, told for good. -/
theorem PCalls.frozen {P : Program} {f : FuncId} {ds : List D} {H : Heap} {n : Nat} {r : D} (h : PCalls P f ds H fun d H' => fz P n H' d = some r) : PCalls P f ds H fun d _ => d = r := by
  intro base w0 Γ w args hR hA
  refine (h base w0 Γ w args hR hA).mono ?_
  rintro u w' ⟨Γ', H', d, x1, x2, x3, x4⟩
  obtain ⟨Γ2, y1, y2, y3⟩ := x2.freezeAll
  exact ⟨Γ2, _, r, x1.trans y1, y2, fz_rep y3 n d r u x4 (x3.mono y1), rfl⟩
end Go.Pv
