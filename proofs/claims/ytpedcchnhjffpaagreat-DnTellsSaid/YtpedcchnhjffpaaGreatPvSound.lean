/- Each operation does so: the first part. -/
import Derived.Test.YtpedcchnhjffpaaGreatPvOps
import Derived.Laws.Small
import Derived.Laws.StructEq
import Derived.Laws.Pointers
import Derived.Laws.Strings
import Derived.Laws.Cover1
import Derived.Laws.Cover3
import Derived.Laws.Concat
namespace Go.Pv
open Go.RowKit
section
variable {P : Program} {base : Prot} {w0 : World} {Γ : Gh} {H : Heap} {w : World}

/-- A calculation that yields d, and the heap H'. -/
def Gives (P : Program) (base : Prot) (w0 : World) (Γ : Gh) (w : World) (s : Sem Value) (d : D) (H' : Heap) : Prop :=
  ∃ v w' Γ', s.run P w = .ok v w' ∧ Γ.le Γ' ∧ Rel P base w0 Γ' H' w' ∧ Rep P Γ' d v
/-- The same, and the world stands. -/
def Still (P : Program) (Γ : Gh) (w : World) (s : Sem Value) (d : D) : Prop := ∃ v, s.run P w = .ok v w ∧ Rep P Γ d v
theorem Still.gives (h : Rel P base w0 Γ H w) {s : Sem Value} {d : D} (hs : Still P Γ w s d) : Gives P base w0 Γ w s d H := by
  obtain ⟨v, hr, hd⟩ := hs
  exact ⟨v, w, Γ, hr, Gh.le.refl Γ, h, hd⟩

theorem run_sizeOf_szOf {t : TypeId} {d : TypeDesc} (hu : P.underlying t = some d) : (sizeOf t).run P w = .ok (szOf P t) w := by
  have hi : ∃ i, P.info? t = some i := by
    cases h : P.info? t with
    | some i => exact ⟨i, rfl⟩
    | none => simp [Program.underlying, h] at hu
  obtain ⟨i, hi⟩ := hi
  simp [sizeOf, typeInfo, hi, szOf]
theorem run_isAgg_desc {t : TypeId} {d : TypeDesc} (hu : P.underlying t = some d) : (isAgg t).run P w = .ok (isAggT d) w := by
  unfold isAgg
  rw [Sem.run_bind, run_underlying hu w]
  cases d <;> rfl

/-- Pointwise, values of a list of cells. -/
def RepAll (P : Program) (Γ : Gh) (cs : List D) (vs : List Value) : Prop := cs.length = vs.length ∧ ∀ (i : Nat) d v, cs[i]? = some d → vs[i]? = some v → Rep P Γ d v
theorem RepAll.sub {cs : List D} {vs : List Value} (h : RepAll P Γ cs vs) (o n : Nat) : RepAll P Γ ((cs.drop o).take n) ((vs.drop o).take n) := by
  refine ⟨by simp [h.1], fun i d v hd hv => ?_⟩
  simp only [List.getElem?_take, List.getElem?_drop] at hd hv
  split at hd
  · rename_i hi
    rw [if_pos hi] at hv
    exact h.2 _ d v hd hv
  · cases hd
theorem RepAll.agg {cs : List D} {vs : List Value} (h : RepAll P Γ cs vs) : Rep P Γ (.agg cs) (.agg vs.toArray) := .agg cs vs h.1 h.2
theorem RepAll.ofAgg {cs : List D} {v : Value} (h : Rep P Γ (.agg cs) v) : ∃ vs : List Value, v = .agg vs.toArray ∧ RepAll P Γ cs vs := by
  cases h with
  | agg cs vs hl hr => exact ⟨vs, rfl, hl, hr⟩

theorem part_still {t : TypeId} {cs : List D} {vs : List Value} {off : Nat} {d : D} (h : RepAll P Γ cs vs) (hK : ePart P t cs off = some d) : Still P Γ w (part t vs.toArray off) d := by
  unfold ePart at hK
  cases hu : P.underlying t with
  | none => simp [hu] at hK
  | some k =>
    have hag := run_isAgg_desc (w := w) hu
    have hsz := run_sizeOf_szOf (w := w) hu
    simp only [hu] at hK
    by_cases hk : isAggT k = true
    · rw [if_pos hk] at hK
      rw [hk] at hag
      split at hK
      · cases hK
        refine ⟨.agg ((vs.drop off).take (szOf P t)).toArray, ?_, (h.sub off (szOf P t)).agg⟩
        simp [part, hag, hsz, Result.andThen]
      · cases hK
    · rw [if_neg hk] at hK
      have hk' : isAggT k = false := by simpa using hk
      rw [hk'] at hag
      have hl := (List.getElem?_eq_some_iff.1 hK).1
      obtain ⟨v, hv⟩ : ∃ v, vs[off]? = some v := ⟨vs[off]'(by rw [← h.1]; exact hl), List.getElem?_eq_getElem _⟩
      refine ⟨v, ?_, h.2 off _ v hK hv⟩
      simp [part, hag, hv, Result.andThen]

theorem loadVar_still {t : TypeId} {cs : List D} {ad : Addr} {vs : Nat → Value} {off : Nat} {d : D} (hc : ∀ (i : Nat) d, cs[i]? = some d → w.cell? (ad.add i) = some (vs i))
    (hr : ∀ (i : Nat) d, cs[i]? = some d → Rep P Γ d (vs i)) (hK : ePart P t cs off = some d) : Still P Γ w (loadVar t (ad.add off)) d := by
  unfold ePart at hK
  cases hu : P.underlying t with
  | none => simp [hu] at hK
  | some k =>
    have hag := run_isAgg_desc (w := w) hu
    have hsz := run_sizeOf_szOf (w := w) hu
    simp only [hu] at hK
    have many : off + szOf P t ≤ cs.length → (loadCells (ad.add off) (szOf P t)).run P w = .ok ((List.range (szOf P t)).map fun i => vs (off + i)).toArray w := by
      intro hl
      have := run_loadCells_list (P := P) w (ad.add off) ((List.range (szOf P t)).map fun i => vs (off + i)) (fun j v hj => by
        have hjl : j < szOf P t := by
          have := (List.getElem?_eq_some_iff.1 hj).1
          simpa using this
        have hd : cs[off + j]? = some (cs[off + j]'(by omega)) := List.getElem?_eq_getElem _
        rw [Addr.add_add, hc _ _ hd]
        simp [List.getElem?_range hjl] at hj
        rw [hj])
      simpa using this
    have reps : off + szOf P t ≤ cs.length → RepAll P Γ ((cs.drop off).take (szOf P t)) ((List.range (szOf P t)).map fun i => vs (off + i)) := by
      intro hl
      refine ⟨by simp; omega, fun i d v hd hv => ?_⟩
      simp only [List.getElem?_take, List.getElem?_drop] at hd
      split at hd
      · rename_i hi
        simp [List.getElem?_range hi] at hv
        subst hv
        exact hr _ _ hd
      · cases hd
    by_cases hk : isAggT k = true
    · rw [if_pos hk] at hK
      rw [hk] at hag
      split at hK
      · rename_i hl
        cases hK
        refine ⟨_, ?_, (reps hl).agg⟩
        simp [loadVar, hag, hsz, many hl, Result.andThen]
      · cases hK
    · rw [if_neg hk] at hK
      have hk' : isAggT k = false := by simpa using hk
      rw [hk'] at hag
      refine ⟨vs off, ?_, hr off _ hK⟩
      have := hc off _ hK
      simp [loadVar, hag, this, Result.andThen]

/-- A box, read. -/
theorem Rel.boxRead (h : Rel P base w0 Γ H w) {i : Nat} {x : Gi} {cs : List D} (hi : H.get i = some (.cells cs)) (hb : Γ.g i = some x) :
    ∃ vs : Nat → Value, (∀ (j : Nat) d, cs[j]? = some d → w.cell? ((⟨x.b, 0, none⟩ : Addr).add j) = some (vs j)) ∧ (∀ (j : Nat) d, cs[j]? = some d → Rep P Γ d (vs j)) := by
  obtain ⟨_, _, vs', T, fr, x3, x4, x5, x6⟩ := h.objAt hi hb
  refine ⟨fun j => vs'.getD j undef, fun j d hj => ?_, fun j d hj => ?_⟩
  · obtain ⟨v, hv, _⟩ := x6 j d hj
    rw [Addr.add_lit, Nat.zero_add, cell_of_row w x.b j vs' T fr x3]
    simp [hv]
  · obtain ⟨v, hv, hr, _⟩ := x6 j d hj
    simpa [hv] using hr
/-- A row, read. -/
theorem Rel.rowRead (h : Rel P base w0 Γ H w) {i : Nat} {x : Gi} {e : TypeId} {l : List D} (hi : H.get i = some (.row e l)) (hb : Γ.g i = some x) :
    ∃ vs : Nat → Value, (∀ (j : Nat) d, (flat l)[j]? = some d → w.cell? ((⟨x.b, x.o, none⟩ : Addr).add j) = some (vs j)) ∧ (∀ (j : Nat) d, (flat l)[j]? = some d → Rep P Γ d (vs j)) ∧ ∀ (j : Nat) d, (flat l)[j]? = some d → (vs j).oneCell' = true := by
  obtain ⟨_, _, k1, k2, k3, k4, vs', T, fr, x3, x4, x5, x6⟩ := h.objAt hi hb
  refine ⟨fun j => vs'.getD (x.o + j) undef, fun j d hj => ?_, fun j d hj => ?_, fun j d hj => ?_⟩
  · obtain ⟨v, hv, _⟩ := x6 j d hj
    rw [Addr.add_lit, cell_of_row w x.b _ vs' T fr x3]
    simp [hv]
  · obtain ⟨v, hv, hr, _⟩ := x6 j d hj
    simpa [hv] using hr
  · obtain ⟨v, hv, hr, ho⟩ := x6 j d hj
    simpa [hv] using ho
theorem Rel.rowSizes (h : Rel P base w0 Γ H w) {i : Nat} {e : TypeId} {l : List D} (hi : H.get i = some (.row e l)) : ∀ d ∈ l, (cellsD d).length = szOf P e := by
  obtain ⟨x, hx, _⟩ := h.obj i _ hi
  exact (h.objAt hi hx).2.2.2.2.2.1

theorem load_still (h : Rel P base w0 Γ H w) {t : TypeId} {x : D} {v : Value} {d : D} (hx : Rep P Γ x v) (hK : eLoad P t x H = some d) : Still P Γ w (Instr.loadAt t v) d := by
  unfold eLoad at hK
  split at hK
  · rename_i cs off
    cases hx with
    | obj cs off ad vs hk hr =>
      have := loadVar_still (w := w) (ad := ad) (fun i d hd => (h.know _ _ (hk i d hd)).1) hr hK
      simpa [Still, Instr.loadAt, Instr.sureAddr] using this
  · rename_i i off
    cases hx with
    | ptr i off y hb =>
      split at hK
      · rename_i cs hi
        obtain ⟨vs, hc, hr⟩ := h.boxRead hi hb
        have := loadVar_still (w := w) (ad := ⟨y.b, 0, none⟩) hc hr hK
        simpa [Still, Instr.loadAt, Instr.sureAddr, Addr.add_lit] using this
      · cases hK
  · rename_i i e k c
    cases hx with
    | rptr i e k c y hb he =>
      split at hK
      · rename_i e' l hi
        split at hK
        · rename_i ee
          subst ee
          split at hK
          · rename_i d' hl
            obtain ⟨vs, hc, hr, _⟩ := h.rowRead hi hb
            have hs := h.rowSizes hi
            have hlen := hs d' (List.mem_of_getElem? hl)
            have hg : ∀ (j : Nat) c, (cellsD d')[j]? = some c → (flat l)[k * szOf P e + j]? = some c := fun j c hj => by
              rw [flat_get hs _ _ _ hl (by rw [← hlen]; exact (List.getElem?_eq_some_iff.1 hj).1)]; exact hj
            have := loadVar_still (w := w) (ad := (⟨y.b, y.o, none⟩ : Addr).add (k * szOf P e)) (vs := fun j => vs (k * szOf P e + j)) (fun j d hj => by rw [Addr.add_add]; exact hc _ _ (hg j d hj)) (fun j d hj => hr _ _ (hg j d hj)) hK
            simpa [Still, Instr.loadAt, Instr.sureAddr, Addr.add_lit, Addr.add_add] using this
          · cases hK
        · cases hK
      · cases hK
  · rename_i g off
    obtain rfl := rep_val hx
    split at hK
    · rename_i cs hg
      have hG := h.glob g cs hg
      have hv : ∀ (j : Nat) d, cs[j]? = some d → ∃ v, Γ.K ⟨g, j, none⟩ v ∧ Rep P Γ d v := hG
      classical
      have := loadVar_still (w := w) (ad := ⟨g, 0, none⟩) (vs := fun j => if hh : ∃ v, Γ.K ⟨g, j, none⟩ v then hh.choose else undef) (cs := cs) (t := t) (off := off) (d := d)
        (fun j d hj => by
          obtain ⟨v, k1, _⟩ := hv j d hj
          have hh : ∃ v, Γ.K ⟨g, j, none⟩ v := ⟨v, k1⟩
          simp only [hh, dif_pos]
          rw [Addr.add_lit, Nat.zero_add]
          exact (h.know _ _ hh.choose_spec).1)
        (fun j d hj => by
          obtain ⟨v, k1, k2⟩ := hv j d hj
          have hh : ∃ v, Γ.K ⟨g, j, none⟩ v := ⟨v, k1⟩
          simp only [hh, dif_pos]
          have e1 := (h.know _ _ hh.choose_spec).1
          have e2 := (h.know _ _ k1).1
          rw [e1] at e2
          rw [Option.some.inj e2]; exact k2) hK
      simpa [Still, Instr.loadAt, Instr.sureAddr, Addr.add_lit] using this
    · cases hK
  · cases hK

theorem field_still {t : TypeId} {x : D} {v : Value} {f : Nat} {d : D} (hx : Rep P Γ x v) (hK : eField P t x f = some d) : Still P Γ w (Instr.field t v f) d := by
  unfold eField at hK
  split at hK
  · rename_i cs fs hu
    obtain ⟨vs, rfl, hr⟩ := RepAll.ofAgg hx
    split at hK
    · rename_i fd hf
      obtain ⟨v, h1, h2⟩ := part_still (w := w) hr hK
      exact ⟨v, by simp [Instr.field, run_underlying hu, hf, asAgg, h1], h2⟩
    · cases hK
  · cases hK

theorem fieldAddr_still {t : TypeId} {x : D} {v : Value} {f : Nat} {d : D} (hx : Rep P Γ x v) (hK : eFieldAddr P t x f = some d) : Still P Γ w (Instr.fieldAt t v f) d := by
  unfold eFieldAddr at hK
  split at hK
  · rename_i fs hu
    split at hK
    · rename_i fd hf
      split at hK
      · rename_i h0
        have hsz : ∀ w, (sizeOf fd.type).run P w = .ok (szOf P fd.type) w := by
          intro w
          unfold szOf at h0 ⊢
          cases hi : P.info? fd.type with
          | none => simp [hi] at h0
          | some i => simp [sizeOf, typeInfo, hi]
        have hne : szOf P fd.type ≠ 0 := by omega
        split at hK
        · cases hK
          cases hx with
          | ptr i off y hb => exact ⟨_, by simp [Instr.fieldAt, run_underlying hu, hf, Instr.sureAddr, fieldPlace, hsz, hne, Addr.add_lit], .ptr _ (_ + fd.offset) y hb⟩
        · cases hK
          cases hx with
          | rptr i e k c y hb he =>
            refine ⟨_, by simp [Instr.fieldAt, run_underlying hu, hf, Instr.sureAddr, fieldPlace, hsz, hne, Addr.add_lit]; rfl, ?_⟩
            rw [Nat.add_assoc]
            exact Rep.rptr _ _ _ _ y hb he
        · cases hK
          cases hx with
          | obj cs off ad vs hk hr => exact ⟨_, by simp [Instr.fieldAt, run_underlying hu, hf, Instr.sureAddr, fieldPlace, hsz, hne, Addr.add_add], .obj _ (_ + fd.offset) ad vs hk hr⟩
        · cases hK
      · cases hK
    · cases hK
  · cases hK

theorem rep_int {k : IntKind} {n : Int} {v : Value} (h : Rep P Γ (.val (.int k n)) v) : v = .int k n := rep_val h

theorem run_sizeOf_pos {e : TypeId} (h : 0 < szOf P e) (w : World) : (sizeOf e).run P w = .ok (szOf P e) w := by
  unfold szOf at h ⊢
  cases hi : P.info? e with
  | none => simp [hi] at h
  | some i => simp [sizeOf, typeInfo, hi]

theorem indexAddr_still {t : TypeId} {x i : D} {v vi : Value} {d : D} (hx : Rep P Γ x v) (hi : Rep P Γ i vi) (hK : eIndexAddr P t x i = some d) : Still P Γ w (Instr.indexAt t v vi) d := by
  unfold eIndexAddr at hK
  split at hK
  · rename_i k n
    obtain rfl := rep_int hi
    split at hK
    · rename_i e g e' l hu
      split at hK
      · rename_i hc
        obtain ⟨rfl, hp, h0, h1⟩ := hc
        cases hK
        have hsz := run_sizeOf_pos hp w
        cases hx with
        | nil => simp at h1; omega
        | slice _ _ _ a ad cap vs hg h2 h3 hc hm ha hs hk hr =>
          obtain ⟨d, hd⟩ : ∃ d, l[n.toNat]? = some d := ⟨l[n.toNat]'(by omega), List.getElem?_eq_getElem _⟩
          have hgd : l.getD n.toNat .undef = d := by simp [List.getD, hd]
          have hne : l ≠ [] := by intro e; subst e; simp at hd
          obtain rfl := ha.resolve_left hne
          have hlen : (cellsD d).length = szOf P e := hs d (List.mem_of_getElem? hd)
          rw [hgd]
          have hfl : ∀ (j : Nat) c, (cellsD d)[j]? = some c → (flat l)[n.toNat * szOf P e + j]? = some c := fun j c hj => by
            rw [flat_get hs _ _ _ hd (by rw [← hlen]; exact (List.getElem?_eq_some_iff.1 hj).1)]; exact hj
          have hrep : Rep P Γ (.obj (cellsD d) 0) (.pointer (some ((ad.add (n.toNat * szOf P e)).add 0))) :=
            .obj _ 0 _ (fun j => vs (n.toNat * szOf P e + j)) (fun j c hj => by rw [Addr.add_add]; exact hk _ _ (hfl j c hj)) (fun j c hj => hr _ _ (hfl j c hj))
          rw [Addr.add_zero'] at hrep
          exact ⟨_, by simp [Instr.indexAt, asIntOf, run_underlying hu, h0, h1, hsz], hrep⟩
      · cases hK
    · rename_i e b e' off len hu
      split at hK
      · rename_i hc
        obtain ⟨rfl, hp, h0, h1⟩ := hc
        cases hK
        have hsz := run_sizeOf_pos hp w
        cases hx with
        | arr _ _ _ _ y cap hb hc hm =>
          exact ⟨_, by simp [Instr.indexAt, asIntOf, run_underlying hu, h0, h1, hsz, Addr.add_lit], .ptr _ _ y hb⟩
      · cases hK
    · rename_i e b e' off len hu
      split at hK
      · rename_i hc
        obtain ⟨rfl, hp, h0, h1⟩ := hc
        cases hK
        have hsz := run_sizeOf_pos hp w
        cases hx with
        | row _ _ _ _ y hb he hc hm =>
          refine ⟨_, by simp [Instr.indexAt, asIntOf, run_underlying hu, h0, h1, hsz, Addr.add_lit]; rfl, ?_⟩
          have := Rep.rptr (P := P) (Γ := Γ) b e (off + n.toNat) 0 y hb he
          simpa [Nat.add_mul, Nat.add_assoc] using this
      · cases hK
    · rename_i m e b off hu
      split at hK
      · rename_i hc
        obtain ⟨hp, h0, h1⟩ := hc
        cases hK
        have hsz := run_sizeOf_pos hp w
        cases hx with
        | ptr _ _ y hb => exact ⟨_, by simp [Instr.indexAt, asIntOf, run_underlying hu, Instr.sureAddr, h0, h1, hsz, Addr.add_lit], .ptr _ _ y hb⟩
      · cases hK
    · rename_i m e b e' kk c hu
      split at hK
      · rename_i hc
        obtain ⟨hp, h0, h1⟩ := hc
        cases hK
        have hsz := run_sizeOf_pos hp w
        cases hx with
        | rptr _ _ _ _ y hb he =>
          refine ⟨_, by simp [Instr.indexAt, asIntOf, run_underlying hu, Instr.sureAddr, h0, h1, hsz, Addr.add_lit]; rfl, ?_⟩
          have := Rep.rptr (P := P) (Γ := Γ) b e' kk (c + n.toNat * szOf P e) y hb he
          simpa [Nat.add_assoc] using this
      · cases hK
    · rename_i m e cs off hu
      split at hK
      · rename_i hc
        obtain ⟨hp, h0, h1⟩ := hc
        cases hK
        have hsz := run_sizeOf_pos hp w
        cases hx with
        | obj _ _ ad vs hk hr => exact ⟨_, by simp [Instr.indexAt, asIntOf, run_underlying hu, Instr.sureAddr, h0, h1, hsz, Addr.add_add], .obj _ _ ad vs hk hr⟩
      · cases hK
    · cases hK
  · cases hK

theorem ba_get (s : ByteArray) (i : Nat) (h : i < s.size) : s[i]? = some (s.data.toList.getD i 0) := by
  have h' : i < s.data.toList.length := by simpa using h
  rw [getElem?_pos s i h, List.getD, List.getElem?_eq_getElem h']
  rfl
theorem deq_beq (a b : List UInt8) : (a == b) = decide (a = b) := by by_cases h : a = b <;> simp [h]

theorem index_still {t : TypeId} {x i : D} {v vi : Value} {d : D} (hx : Rep P Γ x v) (hi : Rep P Γ i vi) (hK : eIndex P t x i = some d) : Still P Γ w (Instr.index t v vi) d := by
  unfold eIndex at hK
  split at hK
  · rename_i s k n hu
    obtain rfl := rep_int hi
    obtain rfl := rep_val hx
    split at hK
    · rename_i hc
      obtain ⟨h0, h1⟩ := hc
      cases hK
      have hb := ba_get s n.toNat (by have : s.data.toList.length = s.size := by simp
                                      omega)
      refine ⟨.int .u8 (byteAt s.data.toList n.toNat), ?_, .val _⟩
      simp only [Instr.index, asIntOf, run_underlying hu, h0, if_true, hb, Sem.run_bind, Sem.run_pure, Result.andThen_ok, byteAt]
    · cases hK
  · rename_i m e cs k n hu
    obtain rfl := rep_int hi
    obtain ⟨vs, rfl, hr⟩ := RepAll.ofAgg hx
    split at hK
    · rename_i hc
      obtain ⟨hp, h0, h1⟩ := hc
      have hsz := run_sizeOf_pos hp w
      obtain ⟨v, r1, r2⟩ := part_still (w := w) hr hK
      exact ⟨v, by simp [Instr.index, asIntOf, run_underlying hu, h0, h1, hsz, r1], r2⟩
    · cases hK
  · cases hK

theorem extract_still {x : D} {v : Value} {i : Nat} {d : D} (hx : Rep P Γ x v) (hK : eExtract x i = some d) : Still P Γ w (Instr.extract v i) d := by
  unfold eExtract at hK
  split at hK
  · rename_i vs
    cases hx with
    | tup cs vs' hl hr =>
      have hi := (List.getElem?_eq_some_iff.1 hK).1
      obtain ⟨v, hv⟩ : ∃ v, vs'[i]? = some v := ⟨vs'[i]'(by rw [← hl]; exact hi), List.getElem?_eq_getElem _⟩
      exact ⟨v, by simp [Instr.extract, hv], hr i _ v hK hv⟩
  · cases hK

theorem eqCell_run {kd : FK} {x y : D} {c : Bool} {f : Field} {k : Nat} (w : World) (d : Nat) (hk : fieldKind P (f, k) = some kd) (hc : eqCell kd x y = some c) :
    (f.offset = k ∧ f.name ≠ "_") ∧ (isAgg f.type).run P w = .ok false w ∧ ∀ vx vy, Rep P Γ x vx → Rep P Γ y vy → (Op.equalIn (d + 1) f.type vx vy).run P w = .ok c w := by
  unfold fieldKind at hk
  split at hk
  case isFalse => cases hk
  rename_i ho
  refine ⟨ho, ?_⟩
  simp only at hk
  cases hu : P.underlying f.type with
  | none => simp [hu] at hk
  | some u =>
    cases u <;> simp only [hu, reduceCtorEq, Option.some.injEq] at hk <;> subst hk <;> refine ⟨by rw [run_isAgg_desc hu]; rfl, ?_⟩ <;> intro vx vy h1 h2
    case string =>
      unfold eqCell at hc
      split at hc <;> first | contradiction | skip
      simp only [Option.some.injEq] at hc
      subst hc
      rw [rep_val h1, rep_val h2, run_equalIn_string w d f.type _ _ hu, ByteArray.toList_eq, ByteArray.toList_eq, deq_beq]
    case bool =>
      unfold eqCell at hc
      split at hc <;> first | contradiction | skip
      simp only [Option.some.injEq] at hc
      subst hc
      rw [rep_val h1, rep_val h2, run_equalIn_bool' w d f.type _ _ hu]
    case int ki =>
      unfold eqCell at hc
      split at hc
      · cases ‹FK.i = FK.s›
      · split at hc
        · cases hc
          rename_i kx a ky b' _ hkk
          subst hkk
          rw [rep_val h1, rep_val h2, run_equalIn_int w d f.type kx ki a b' hu]
          by_cases e : a = b' <;> simp [e]
        · cases hc
      · cases ‹FK.i = FK.b›
      · cases hc

theorem eqFields_run (w : World) (d : Nat) (xs ys : List Value) : ∀ (fs : List Field) (k : Nat) (ks : List FK) (dx dy : List D) (b : Bool), (fs.zipIdx k).mapM (fieldKind P) = some ks →
    RepAll P Γ dx (xs.drop k) → RepAll P Γ dy (ys.drop k) → eqCells ks dx dy = some b → (Op.eqFields (d + 1) xs.toArray ys.toArray fs).run P w = .ok b w
  | [], k, ks, dx, dy, b, hk, _, _, he => by
    simp at hk; subst hk
    cases dx <;> cases dy <;> simp [eqCells] at he
    subst he
    rfl
  | f :: fs, k, ks, dx, dy, b, hf, rx, ry, he => by
    rw [List.zipIdx_cons, List.mapM_cons] at hf
    cases hk1 : fieldKind P (f, k) with
    | none => simp [hk1] at hf
    | some kd =>
      cases hk2 : (fs.zipIdx (k + 1)).mapM (fieldKind P) with
      | none => simp [hk1, hk2] at hf
      | some ks' =>
        simp [hk1, hk2] at hf
        subst hf
        cases dx with
        | nil => simp [eqCells] at he
        | cons x dx' =>
        cases dy with
        | nil => simp [eqCells] at he
        | cons y dy' =>
        simp only [eqCells] at he
        cases hc : eqCell kd x y with
        | none => simp [hc] at he
        | some c =>
        cases hr : eqCells ks' dx' dy' with
        | none => simp [hc, hr] at he
        | some r =>
        simp [hc, hr] at he
        subst he
        obtain ⟨⟨ho, hnm⟩, hnag, heq⟩ := eqCell_run (Γ := Γ) w d hk1 hc
        have hkx : k < xs.length := by have := rx.1; simp at this; omega
        have hky : k < ys.length := by have := ry.1; simp at this; omega
        have gx : (xs.drop k)[0]? = some xs[k] := by simp [hkx]
        have gy : (ys.drop k)[0]? = some ys[k] := by simp [hky]
        have tx : RepAll P Γ dx' (xs.drop (k + 1)) := ⟨by have := rx.1; simp at this ⊢; omega, fun i d v hd hv => rx.2 (i + 1) d v (by simpa using hd) (by simp at hv ⊢; rw [← hv]; congr 1; omega)⟩
        have ty : RepAll P Γ dy' (ys.drop (k + 1)) := ⟨by have := ry.1; simp at this ⊢; omega, fun i d v hd hv => ry.2 (i + 1) d v (by simpa using hd) (by simp at hv ⊢; rw [← hv]; congr 1; omega)⟩
        have ih := eqFields_run w d xs ys fs (k + 1) ks' dx' dy' r hk2 tx ty hr
        have hpx : (part f.type xs.toArray f.offset).run P w = .ok xs[k] w := by simp [part, hnag, ho, hkx]
        have hpy : (part f.type ys.toArray f.offset).run P w = .ok ys[k] w := by simp [part, hnag, ho, hky]
        have he := heq _ _ (rx.2 0 x _ rfl gx) (ry.2 0 y _ rfl gy)
        simp only [Op.eqFields, ne_eq, hnm, not_false_eq_true, if_true, Sem.run_bind, hpx, hpy, Result.andThen_ok, he]
        cases c
        · simp
        · simpa using ih

theorem equalIn_slice_nil (w : World) (d : Nat) (t e : TypeId) (a : Option Addr) (n c : Nat) (h : P.underlying t = some (.slice e)) :
    (Op.equalIn (d + 1) t (.slice a n c) (.slice none 0 0)).run P w = .ok a.isNone w := by
  cases a <;> simp [Op.equalIn, run_underlying h]
theorem flatKinds_fields {t : TypeId} {ks : List FK} (h : flatKinds P t = some ks) :
    P.underlying t = some (.struct (P.fieldsOf t)) ∧ P.stoodInHeld t = false ∧ P.eqGuardType P.depth t = false ∧ ((P.fieldsOf t).toList.zipIdx 0).mapM (fieldKind P) = some ks := by
  unfold flatKinds at h
  split at h
  · rename_i fs hu
    split at h
    · rename_i hc
      have hf : P.fieldsOf t = fs := by simp [Program.fieldsOf, hu]
      exact ⟨by rw [hf, hu], hc.1, hc.2, by rw [hf]; exact h⟩
    · cases h
  · cases h
theorem agg_equal_run {t : TypeId} {ks : List FK} {xs ys : List D} {vs us : List Value} {b : Bool} (w : World) (hf : flatKinds P t = some ks) (hr : RepAll P Γ xs vs) (hs : RepAll P Γ ys us)
    (hb : eqCells ks xs ys = some b) : (Op.equalIn 10000 t (.agg vs.toArray) (.agg us.toArray)).run P w = .ok b w := by
  obtain ⟨h1, h2, h3, h4⟩ := flatKinds_fields hf
  rw [run_equalIn_agg w 9999 t _ _ h1 h2]
  exact eqFields_run w 9998 vs us _ 0 ks xs ys b h4 (by simpa using hr) (by simpa using hs) hb

theorem equalIn_pointer_nil (w : World) (d : Nat) (t e : TypeId) (a : Option Addr) (h : P.underlying t = some (.pointer e)) : (Op.equalIn (d + 1) t (.pointer a) (.pointer none)).run P w = .ok a.isNone w := by
  cases a <;> simp [Op.equalIn, run_underlying h]
theorem equalIn_map_nil (w : World) (d : Nat) (t e f : TypeId) (a : Option Nat) (h : P.underlying t = some (.map e f)) : (Op.equalIn (d + 1) t (.map a) (.map none)).run P w = .ok a.isNone w := by
  cases a <;> simp [Op.equalIn, run_underlying h]
theorem equalIn_ifc_nil (w : World) (d : Nat) (t : TypeId) (ms : Array (String × TypeId)) (h : P.underlying t = some (.interface ms)) : (Op.equalIn (d + 1) t .nilIface .nilIface).run P w = .ok true w ∧ ∀ s u, (Op.equalIn (d + 1) t (.iface s u) .nilIface).run P w = .ok false w :=
  ⟨by simp [Op.equalIn, run_underlying h], fun s u => by simp [Op.equalIn, run_underlying h]⟩
theorem equalIn_fn_nil (w : World) (d : Nat) (t : TypeId) {p q r} (h : P.underlying t = some (.func p q r)) : (Op.equalIn (d + 1) t .nilFunc .nilFunc).run P w = .ok true w ∧ ∀ f a c, (Op.equalIn (d + 1) t (.func f a c) .nilFunc).run P w = .ok false w :=
  ⟨by simp [Op.equalIn, run_underlying h], fun f a c => by simp [Op.equalIn, run_underlying h]⟩
theorem eEq_some {op : BinOp} {r : Option Bool} {d : D} (h : eEq op r = some d) : ∃ b, r = some b ∧ ((op = .eql ∧ d = .val (.bool b)) ∨ (op = .neq ∧ d = .val (.bool (!b)))) := by
  unfold eEq at h
  split at h
  · exact ⟨_, rfl, .inl ⟨rfl, (Option.some.inj h).symm⟩⟩
  · exact ⟨_, rfl, .inr ⟨rfl, (Option.some.inj h).symm⟩⟩
  · cases h
theorem rep_nil {e : TypeId} {v : Value} (h : Rep P Γ (.slice 1 e []) v) : v = .slice none 0 0 := by
  cases h with
  | nil => rfl
  | slice g e l a ad cap vs hg => exact absurd rfl hg
theorem isNil_slice {x : D} {v : Value} {b : Bool} (hx : Rep P Γ x v) (hb : isNilD x = some b) : ∃ a n c, v = .slice a n c ∧ a.isNone = b := by
  cases hx with
  | nil e => simp [isNilD] at hb; exact ⟨_, _, _, rfl, by simp [hb]⟩
  | slice g e l a ad cap vs hg h2 h3 hc hm ha =>
    simp only [isNilD, hg, if_false] at hb
    split at hb
    · rename_i hg3
      cases hb
      exact ⟨_, _, _, rfl, by have := h3 hg3; cases a <;> simp_all⟩
    · split at hb
      · cases hb
      · cases hb
        rcases ha with h | h
        · cases h
        · subst h; exact ⟨_, _, _, rfl, rfl⟩
  | arr i e off len y cap hb' hc hm => simp [isNilD] at hb; subst hb; exact ⟨_, _, _, rfl, rfl⟩
  | row i e off len y hb' he hc hm => simp [isNilD] at hb; subst hb; exact ⟨_, _, _, rfl, rfl⟩
  | _ => simp [isNilD] at hb
theorem isNil_pointer {x : D} {v : Value} {b : Bool} (hx : Rep P Γ x v) (hb : isNilP x = some b) : ∃ a, v = .pointer a ∧ a.isNone = b := by
  cases hx with
  | val v => unfold isNilP at hb; split at hb <;> first | (cases hb; done) | (rename_i h; cases h; done) | (rename_i h; cases h; cases hb; exact ⟨_, rfl, rfl⟩)
  | ptr i off y hb' => simp [isNilP] at hb; subst hb; exact ⟨_, rfl, rfl⟩
  | rptr i e k c y hb' he => simp [isNilP] at hb; subst hb; exact ⟨_, rfl, rfl⟩
  | obj cs off ad vs hk hr => simp [isNilP] at hb; subst hb; exact ⟨_, rfl, rfl⟩
  | _ => simp [isNilP] at hb
theorem isNil_map {x : D} {v : Value} {b : Bool} (hx : Rep P Γ x v) (hb : isNilM x = some b) : ∃ a, v = .map a ∧ a.isNone = b := by
  cases hx with
  | val v => unfold isNilM at hb; split at hb <;> first | (cases hb; done) | (rename_i h; cases h; done) | (rename_i h; cases h; cases hb; exact ⟨_, rfl, rfl⟩)
  | mp i y hb' => simp [isNilM] at hb; subst hb; exact ⟨_, rfl, rfl⟩
  | _ => simp [isNilM] at hb
theorem isNil_ifc {x : D} {v : Value} {b : Bool} (hx : Rep P Γ x v) (hb : isNilI x = some b) : (b = true ∧ v = .nilIface) ∨ (b = false ∧ ∃ t u, v = .iface t u) := by
  cases hx with
  | val v =>
    unfold isNilI at hb; split at hb <;> first | (cases hb; done) | (rename_i h; cases h; done) | skip
    · rename_i h; cases h; cases hb; exact .inr ⟨rfl, _, _, rfl⟩
    · rename_i h; cases h; cases hb; exact .inl ⟨rfl, rfl⟩
  | ifc t d v h => simp [isNilI] at hb; subst hb; exact .inr ⟨rfl, _, _, rfl⟩
  | _ => simp [isNilI] at hb
theorem isNil_fn {x : D} {v : Value} {b : Bool} (hx : Rep P Γ x v) (hb : isNilF x = some b) : (b = true ∧ v = .nilFunc) ∨ (b = false ∧ ∃ f a c, v = .func f a c) := by
  cases hx with
  | val v =>
    unfold isNilF at hb; split at hb <;> first | (cases hb; done) | (rename_i h; cases h; done) | skip
    · rename_i h; cases h; cases hb; exact .inr ⟨rfl, _, _, _, rfl⟩
    · rename_i h; cases h; cases hb; exact .inl ⟨rfl, rfl⟩
  | clo fn f c v1 v2 h1 h2 r1 r2 => simp [isNilF] at hb; subst hb; exact .inr ⟨rfl, _, _, _, rfl⟩
  | _ => simp [isNilF] at hb
/-- Something held against nil, as the model does it. -/
theorem nil_equal {t : TypeId} {x y : D} {vx vy : Value} {b : Bool} (w : World) (hx : Rep P Γ x vx) (hy : Rep P Γ y vy) (hb : isNilOf (nilKind (P.underlying t)) x y = some b) :
    (Op.equal t vx vy).run P w = .ok b w ∧ (vy ≠ .nilIface → ∀ op ox oy, (eqGuard op t ox oy vx vy).run P w = .ok () w) := by
  unfold isNilOf at hb
  split at hb
  · rename_i hk
    have hu : ∃ e, P.underlying t = some (.slice e) := by
      unfold nilKind at hk; split at hk <;> first | (cases hk; done) | exact ⟨_, by assumption⟩
    obtain ⟨e, hu⟩ := hu
    obtain ⟨a, n, c, rfl, rfl⟩ := isNil_slice hx hb
    obtain rfl := rep_nil hy
    exact ⟨equalIn_slice_nil w 9999 t e a n c hu, fun _ op ox oy => by cases op <;> rfl⟩
  · rename_i hk
    have hu : ∃ e, P.underlying t = some (.pointer e) := by
      unfold nilKind at hk; split at hk <;> first | (cases hk; done) | exact ⟨_, by assumption⟩
    obtain ⟨e, hu⟩ := hu
    obtain ⟨a, rfl, rfl⟩ := isNil_pointer hx hb
    obtain rfl := rep_val hy
    exact ⟨equalIn_pointer_nil w 9999 t e a hu, fun _ op ox oy => by cases op <;> rfl⟩
  · rename_i hk
    have hu : ∃ e f, P.underlying t = some (.map e f) := by
      unfold nilKind at hk; split at hk <;> first | (cases hk; done) | exact ⟨_, _, by assumption⟩
    obtain ⟨e, f, hu⟩ := hu
    obtain ⟨a, rfl, rfl⟩ := isNil_map hx hb
    obtain rfl := rep_val hy
    exact ⟨equalIn_map_nil w 9999 t e f a hu, fun _ op ox oy => by cases op <;> rfl⟩
  · rename_i hk
    have hu : ∃ e, P.underlying t = some (.interface e) := by
      unfold nilKind at hk; split at hk <;> first | (cases hk; done) | exact ⟨_, by assumption⟩
    obtain ⟨e, hu⟩ := hu
    obtain rfl := rep_val hy
    refine ⟨?_, fun h => absurd rfl h⟩
    rcases isNil_ifc hx hb with ⟨rfl, rfl⟩ | ⟨rfl, t', u, rfl⟩
    · exact (equalIn_ifc_nil w 9999 t e hu).1
    · exact (equalIn_ifc_nil w 9999 t e hu).2 _ _
  · rename_i hk
    have hu : ∃ e f g, P.underlying t = some (.func e f g) := by
      unfold nilKind at hk; split at hk <;> first | (cases hk; done) | exact ⟨_, _, _, by assumption⟩
    obtain ⟨e, f, g, hu⟩ := hu
    obtain rfl := rep_val hy
    refine ⟨?_, fun _ op ox oy => ?_⟩
    · rcases isNil_fn hx hb with ⟨rfl, rfl⟩ | ⟨rfl, f', a, c, rfl⟩
      · exact (equalIn_fn_nil w 9999 t hu).1
      · exact (equalIn_fn_nil w 9999 t hu).2 _ _ _
    · rcases isNil_fn hx hb with ⟨rfl, rfl⟩ | ⟨rfl, f', a, c, rfl⟩ <;> cases op <;> rfl
  · cases hb
theorem eqGuard_plain (op : BinOp) (t : TypeId) (x y : Operand) (u v : Value) (h : (∃ k n, u = .int k n) ∨ (∃ s, u = .string s) ∨ ∃ b, u = .bool b) : (eqGuard op t x y u v).run P w = .ok () w := by
  rcases h with ⟨k, n, rfl⟩ | ⟨s, rfl⟩ | ⟨b, rfl⟩ <;> cases op <;> simp [eqGuard]
/-- An operation of two operands; ok: of two nil interfaces one is the word nil itself. -/
theorem bin_still {op : BinOp} {t : TypeId} {x y : D} {vx vy : Value} {d : D} {ox oy : Operand} (hx : Rep P Γ x vx) (hy : Rep P Γ y vy) (hn : vy = .nilIface → ∃ c, oy = .const c) (hK : eBin P op t x y = some d) :
    Still P Γ w (do eqGuard op t ox oy vx vy; binOp op t vx vy) d := by
  unfold eBin at hK
  split at hK
  · rename_i k a k' b
    obtain rfl := rep_int hx
    obtain rfl := rep_int hy
    have hg := eqGuard_plain (P := P) (w := w) op t ox oy (.int k a) (.int k' b) (.inl ⟨_, _, rfl⟩)
    suffices hs : Still P Γ w (binOp op t (.int k a) (.int k' b)) d by
      obtain ⟨v, h1, h2⟩ := hs
      exact ⟨v, by simp only [Sem.run_bind, hg, Result.andThen_ok, h1], h2⟩
    split at hK
    · split at hK
      · cases hK
        exact ⟨_, by simp [binOp, Op.shift, show ¬ b < 0 by omega], .val _⟩
      · cases hK
    · split at hK
      · cases hK
        exact ⟨_, by simp [binOp, Op.shift, show ¬ b < 0 by omega], .val _⟩
      · cases hK
    · split at hK
      · rename_i n1 n2 hkk
        subst hkk
        cases op <;> simp only [eInt, Option.some.injEq] at hK
        case quo =>
          split at hK
          · rename_i h0; cases hK; exact ⟨_, by simp [binOp, Op.intDiv, h0], .val _⟩
          · cases hK
        case rem =>
          split at hK
          · rename_i h0; cases hK; exact ⟨_, by simp [binOp, Op.intDiv, h0], .val _⟩
          · cases hK
        case eql => subst hK; exact ⟨.bool (a == b), by simp [binOp, Op.intCmp], by rw [show (a == b) = decide (a = b) by by_cases h : a = b <;> simp [h]]; exact .val _⟩
        case neq => subst hK; exact ⟨.bool (a != b), by simp [binOp, Op.intCmp], by rw [show (a != b) = !decide (a = b) by by_cases h : a = b <;> simp [h]]; exact .val _⟩
        all_goals first | (cases hK; done) | (subst hK; exact ⟨_, by first | (simp [binOp, Op.intCmp]; done) | (simp [binOp, Op.intArith]; done) | (simp [binOp, Op.intBits]; done), .val _⟩)
      · cases hK
  · rename_i k a k' b
    obtain rfl := rep_val hx
    obtain rfl := rep_val hy
    split at hK
    · rename_i hkk
      subst hkk
      have hg : (eqGuard op t ox oy (.float k a) (.float k b)).run P w = .ok () w := by cases op <;> simp [eqGuard]
      unfold eFloat at hK
      split at hK
      · cases hK
        exact ⟨_, by simp only [Sem.run_bind, hg, Result.andThen_ok]; simp [binOp, Op.floatCmp, Op.floatEq], .val _⟩
      · cases hK
        exact ⟨_, by simp only [Sem.run_bind, hg, Result.andThen_ok]; simp [binOp, Op.floatCmp, Op.floatEq, bne], .val _⟩
      · cases hK
        exact ⟨_, by simp only [Sem.run_bind, hg, Result.andThen_ok]; simp [binOp, Op.floatCmp], .val _⟩
      · cases hK
        exact ⟨_, by simp only [Sem.run_bind, hg, Result.andThen_ok]; simp [binOp, Op.floatCmp], .val _⟩
      · cases hK
    · cases hK
  · rename_i a b
    obtain rfl := rep_val hx
    obtain rfl := rep_val hy
    have hg := eqGuard_plain (P := P) (w := w) op t ox oy (.string a) (.string b) (.inr (.inl ⟨_, rfl⟩))
    suffices hs : Still P Γ w (binOp op t (.string a) (.string b)) d by
      obtain ⟨v, h1, h2⟩ := hs
      exact ⟨v, by simp only [Sem.run_bind, hg, Result.andThen_ok, h1], h2⟩
    cases op <;> simp only [eStr, Option.some.injEq] at hK
    case add =>
      split at hK
      · rename_i h0
        cases hK
        refine ⟨.string (a ++ b), by rw [binOp_string_add]; exact run_string_add_sum w a b (by simpa using h0), ?_⟩
        have e : a ++ b = ⟨(a.data.toList ++ b.data.toList).toArray⟩ := by apply ByteArray.ext; apply Array.ext'; simp
        rw [e]; exact .val _
      · cases hK
    case eql => subst hK; exact ⟨_, by rw [binOp_string_eql]; (try simp only [ByteArray.toList_eq, deq_beq]); (try rfl), .val _⟩
    case neq => subst hK; exact ⟨_, by rw [binOp_string_neq]; (try simp only [ByteArray.toList_eq, deq_beq]); (try rfl), .val _⟩
    case lss => subst hK; exact ⟨_, by rw [binOp_string_lss]; (try simp only [ByteArray.toList_eq, deq_beq]); (try rfl), .val _⟩
    case leq => subst hK; exact ⟨_, by rw [binOp_string_leq]; (try simp only [ByteArray.toList_eq, deq_beq]); (try rfl), .val _⟩
    case gtr => subst hK; exact ⟨_, by rw [binOp_string_gtr]; (try simp only [ByteArray.toList_eq, deq_beq]); (try rfl), .val _⟩
    case geq => subst hK; exact ⟨_, by rw [binOp_string_geq]; (try simp only [ByteArray.toList_eq, deq_beq]); (try rfl), .val _⟩
    all_goals cases hK
  · rename_i a b
    obtain rfl := rep_val hx
    obtain rfl := rep_val hy
    have hg := eqGuard_plain (P := P) (w := w) op t ox oy (.bool a) (.bool b) (.inr (.inr ⟨_, rfl⟩))
    suffices hs : Still P Γ w (binOp op t (.bool a) (.bool b)) d by
      obtain ⟨v, h1, h2⟩ := hs
      exact ⟨v, by simp only [Sem.run_bind, hg, Result.andThen_ok, h1], h2⟩
    split at hK
    · rename_i hu
      obtain ⟨b', hb, hE⟩ := eEq_some hK
      cases hb
      rcases hE with ⟨rfl, rfl⟩ | ⟨rfl, rfl⟩
      · exact ⟨_, run_eql_bool w t a b hu, .val _⟩
      · exact ⟨_, run_neq_bool w t a b hu, .val _⟩
    · cases hK
  · rename_i xs ys
    split at hK
    · rename_i ks hf
      obtain ⟨vs, rfl, hr⟩ := RepAll.ofAgg hx
      obtain ⟨us, rfl, hs⟩ := RepAll.ofAgg hy
      obtain ⟨b, hb, hE⟩ := eEq_some hK
      have he := agg_equal_run w hf hr hs hb
      have hg := run_eqGuard_agg (P := P) w op t ox oy vs.toArray us.toArray (flatKinds_fields hf).2.2.1
      rcases hE with ⟨rfl, rfl⟩ | ⟨rfl, rfl⟩
      · exact ⟨_, by simp only [Sem.run_bind, hg, Result.andThen_ok]; rw [run_eql_struct, he]; rfl, .val _⟩
      · exact ⟨_, by simp only [Sem.run_bind, hg, Result.andThen_ok]; rw [run_neq_struct, he]; rfl, .val _⟩
    · cases hK
  · rename_i i e k c i' e' k' c'
    split at hK
    · rename_i e2 hu
      split at hK
      · rename_i hc
        obtain ⟨rfl, rfl, rfl, rfl, hz⟩ := hc
        obtain ⟨b, hb, hE⟩ := eEq_some hK
        cases hb
        cases hx with
        | rptr _ _ _ _ x1 hx1 _ =>
        cases hy with
        | rptr _ _ _ _ x2 hx2 _ =>
        rw [hx1] at hx2; cases hx2
        obtain ⟨j, hj⟩ : ∃ j, P.info? e2 = some j := by
          unfold szOf at hz
          cases hq : P.info? e2 with
          | none => rw [hq] at hz; exact absurd rfl hz
          | some j => exact ⟨j, rfl⟩
        have hjs : j.size ≠ 0 := by
          unfold szOf at hz; rw [hj] at hz; exact hz
        have h : ∀ (A : Addr) (d : Nat), (Op.equalIn (d + 1) t (.pointer (some A)) (.pointer (some A))).run P w = .ok true w := fun A d => by
          simp [Op.equalIn, run_underlying hu, sizeOf, typeInfo, hj, run_sameAddr_same]
        rcases hE with ⟨rfl, rfl⟩ | ⟨rfl, rfl⟩
        · refine ⟨.bool true, ?_, .val _⟩
          simp [eqGuard, binOp, Op.equal, Op.maxDepth, h _ 9999]
        · refine ⟨.bool (!true), ?_, .val _⟩
          simp [eqGuard, binOp, Op.equal, Op.maxDepth, h _ 9999]
      · cases hK
    · cases hK
  · obtain ⟨b, hb, hE⟩ := eEq_some hK
    obtain ⟨he, hg⟩ := nil_equal w hx hy hb
    have hg' : (eqGuard op t ox oy vx vy).run P w = .ok () w := by
      by_cases hv : vy = .nilIface
      · obtain ⟨c, rfl⟩ := hn hv
        subst hv
        cases op <;> cases vx <;> simp [eqGuard]
      · exact hg hv op ox oy
    rcases hE with ⟨rfl, rfl⟩ | ⟨rfl, rfl⟩
    · refine ⟨.bool b, ?_, .val _⟩
      simp only [Sem.run_bind, hg', Result.andThen_ok]
      unfold isNilOf at hb
      split at hb
      · obtain ⟨a, n, c, rfl, rfl⟩ := isNil_slice hx hb
        obtain rfl := rep_nil hy
        simp only [binOp, Sem.run_bind, he, Result.andThen_ok, Sem.run_pure]
      · obtain ⟨a, rfl, rfl⟩ := isNil_pointer hx hb
        obtain rfl := rep_val hy
        simp only [binOp, Sem.run_bind, he, Result.andThen_ok, Sem.run_pure]
      · obtain ⟨a, rfl, rfl⟩ := isNil_map hx hb
        obtain rfl := rep_val hy
        simp only [binOp, Sem.run_bind, he, Result.andThen_ok, Sem.run_pure]
      · obtain rfl := rep_val hy
        rcases isNil_ifc hx hb with ⟨rfl, rfl⟩ | ⟨rfl, t', u, rfl⟩ <;> simp only [binOp, Sem.run_bind, he, Result.andThen_ok, Sem.run_pure]
      · obtain rfl := rep_val hy
        rcases isNil_fn hx hb with ⟨rfl, rfl⟩ | ⟨rfl, f', a, c, rfl⟩ <;> simp only [binOp, Sem.run_bind, he, Result.andThen_ok, Sem.run_pure]
      · cases hb
    · refine ⟨.bool (!b), ?_, .val _⟩
      simp only [Sem.run_bind, hg', Result.andThen_ok]
      unfold isNilOf at hb
      split at hb
      · obtain ⟨a, n, c, rfl, rfl⟩ := isNil_slice hx hb
        obtain rfl := rep_nil hy
        simp only [binOp, Sem.run_bind, he, Result.andThen_ok, Sem.run_pure]
      · obtain ⟨a, rfl, rfl⟩ := isNil_pointer hx hb
        obtain rfl := rep_val hy
        simp only [binOp, Sem.run_bind, he, Result.andThen_ok, Sem.run_pure]
      · obtain ⟨a, rfl, rfl⟩ := isNil_map hx hb
        obtain rfl := rep_val hy
        simp only [binOp, Sem.run_bind, he, Result.andThen_ok, Sem.run_pure]
      · obtain rfl := rep_val hy
        rcases isNil_ifc hx hb with ⟨rfl, rfl⟩ | ⟨rfl, t', u, rfl⟩ <;> simp only [binOp, Sem.run_bind, he, Result.andThen_ok, Sem.run_pure]
      · obtain rfl := rep_val hy
        rcases isNil_fn hx hb with ⟨rfl, rfl⟩ | ⟨rfl, f', a, c, rfl⟩ <;> simp only [binOp, Sem.run_bind, he, Result.andThen_ok, Sem.run_pure]
      · cases hb

theorem un_still {op : UnOp} {x : D} {v : Value} {d : D} (hx : Rep P Γ x v) (hK : eUn op x = some d) : Still P Γ w (Op.unary op v) d := by
  unfold eUn at hK
  split at hK
  · obtain rfl := rep_val hx
    cases hK
    exact ⟨_, by simp only [Op.unary, Op.intArith, Sem.run_pure], .val _⟩
  · obtain rfl := rep_val hx
    cases hK
    exact ⟨_, by simp only [Op.unary, Sem.run_pure], .val _⟩
  · cases hK
end
end Go.Pv
