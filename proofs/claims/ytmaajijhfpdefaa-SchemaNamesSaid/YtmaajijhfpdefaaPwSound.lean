/- Each operation does so: the first part. -/
import Derived.Test.YtmaajijhfpdefaaPwOps
import Derived.Laws.Small
import Derived.Laws.StructEq
import Derived.Laws.Pointers
import Derived.Laws.Strings
import Derived.Laws.Cover1
import Derived.Laws.Cover3
import Derived.Laws.Concat
namespace Go.Pw
open Go.RowKit
section
variable {P : Program} {base : Nat} {w0 : World} {Γ : Gh} {H : Heap} {w : World}

/-- A calculation that yields what K asks. -/
def Gives (P : Program) (base : Nat) (w0 : World) (Γ : Gh) (w : World) (s : Sem Value) (K : D → Heap → Prop) : Prop :=
  ∃ v w' Γ' H' d, s.run P w = .ok v w' ∧ Γ.le Γ' ∧ Rel P base w0 Γ' H' w' ∧ Rep P Γ' d v ∧ K d H'
/-- The same, and the world stands. -/
def Still (P : Program) (Γ : Gh) (w : World) (s : Sem Value) (K : D → Prop) : Prop := ∃ v d, s.run P w = .ok v w ∧ Rep P Γ d v ∧ K d
theorem Still.gives (h : Rel P base w0 Γ H w) {s : Sem Value} {K : D → Heap → Prop} (hs : Still P Γ w s fun d => K d H) : Gives P base w0 Γ w s K := by
  obtain ⟨v, d, hr, hd, hK⟩ := hs
  exact ⟨v, w, Γ, H, d, hr, Gh.le.refl Γ, h, hd, hK⟩

theorem run_sizeOf_szOf {t : TypeId} {d : TypeDesc} (hu : P.underlying t = some d) : (sizeOf t).run P w = .ok (szOf P t) w := by
  have hi : ∃ i, P.info? t = some i := by
    cases h : P.info? t with
    | some i => exact ⟨i, rfl⟩
    | none => simp [Program.underlying, h] at hu
  obtain ⟨i, hi⟩ := hi
  simp [sizeOf, typeInfo, hi, szOf]
theorem run_isAgg_desc {t : TypeId} {d : TypeDesc} (hu : P.underlying t = some d) : (isAgg t).run P w = .ok (match d with | .struct _ | .array _ _ => true | _ => false) w := by
  unfold isAgg
  rw [Sem.run_bind, run_underlying hu w]
  cases d <;> rfl

/-- Pointwise, values of a list of cells. -/
def RepAll (P : Program) (Γ : Gh) (cs : List D) (vs : List Value) : Prop := cs.length = vs.length ∧ ∀ (i : Nat) d v, cs[i]? = some d → vs[i]? = some v → Rep P Γ d v
theorem RepAll.sub {cs : List D} {vs : List Value} (h : RepAll P Γ cs vs) (o n : Nat) : RepAll P Γ ((cs.drop o).take n) ((vs.drop o).take n) := by
  refine ⟨by simp [h.1], fun i d v hd hv => ?_⟩
  simp only [List.getElem?_take, List.getElem?_drop] at hd hv
  split at hd
  · rename_i hi
    rw [if_pos hi] at hv
    exact h.2 _ d v hd hv
  · cases hd
theorem RepAll.agg {cs : List D} {vs : List Value} (h : RepAll P Γ cs vs) : Rep P Γ (.agg cs) (.agg vs.toArray) := .agg cs vs h.1 h.2
theorem RepAll.ofAgg {cs : List D} {v : Value} (h : Rep P Γ (.agg cs) v) : ∃ vs : List Value, v = .agg vs.toArray ∧ RepAll P Γ cs vs := by
  cases h with
  | agg cs vs hl hr => exact ⟨vs, rfl, hl, hr⟩

theorem part_still {t : TypeId} {cs : List D} {vs : List Value} {off : Nat} {K : D → Prop} (h : RepAll P Γ cs vs) (hK : pPart P t cs off K) : Still P Γ w (part t vs.toArray off) K := by
  unfold pPart at hK
  cases hu : P.underlying t with
  | none => simp [hu] at hK
  | some d =>
    have hag := run_isAgg_desc (w := w) hu
    have hsz := run_sizeOf_szOf (w := w) hu
    simp only [hu] at hK
    cases d
    case struct fs =>
      obtain ⟨hl, hK⟩ := hK
      refine ⟨.agg ((vs.drop off).take (szOf P t)).toArray, _, ?_, (h.sub off (szOf P t)).agg, hK⟩
      simp [part, hag, hsz, Result.andThen]
    case array n e =>
      obtain ⟨hl, hK⟩ := hK
      refine ⟨.agg ((vs.drop off).take (szOf P t)).toArray, _, ?_, (h.sub off (szOf P t)).agg, hK⟩
      simp [part, hag, hsz, Result.andThen]
    all_goals
      obtain ⟨hl, hK⟩ := hK
      obtain ⟨v, hv⟩ : ∃ v, vs[off]? = some v := ⟨vs[off]'(by rw [← h.1]; exact hl), List.getElem?_eq_getElem _⟩
      have hd : cs[off]? = some (cs.getD off .undef) := by simp [List.getD, List.getElem?_eq_getElem hl]
      refine ⟨v, _, ?_, h.2 off _ v hd hv, hK⟩
      simp [part, hag, hv, Result.andThen]

theorem loadVar_still {t : TypeId} {cs : List D} {ad : Addr} {vs : Nat → Value} {off : Nat} {K : D → Prop} (hc : ∀ (i : Nat) d, cs[i]? = some d → w.cell? (ad.add i) = some (vs i))
    (hr : ∀ (i : Nat) d, cs[i]? = some d → Rep P Γ d (vs i)) (hK : pPart P t cs off K) : Still P Γ w (loadVar t (ad.add off)) K := by
  unfold pPart at hK
  cases hu : P.underlying t with
  | none => simp [hu] at hK
  | some d =>
    have hag := run_isAgg_desc (w := w) hu
    have hsz := run_sizeOf_szOf (w := w) hu
    simp only [hu] at hK
    have many : off + szOf P t ≤ cs.length → (loadCells (ad.add off) (szOf P t)).run P w = .ok ((List.range (szOf P t)).map fun i => vs (off + i)).toArray w := by
      intro hl
      have := run_loadCells_list (P := P) w (ad.add off) ((List.range (szOf P t)).map fun i => vs (off + i)) (fun j v hj => by
        have hjl : j < szOf P t := by
          have := (List.getElem?_eq_some_iff.1 hj).1
          simpa using this
        have hd : cs[off + j]? = some (cs[off + j]'(by omega)) := List.getElem?_eq_getElem _
        rw [Addr.add_add, hc _ _ hd]
        simp [List.getElem?_range hjl] at hj
        rw [hj])
      simpa using this
    have reps : off + szOf P t ≤ cs.length → RepAll P Γ ((cs.drop off).take (szOf P t)) ((List.range (szOf P t)).map fun i => vs (off + i)) := by
      intro hl
      refine ⟨by simp; omega, fun i d v hd hv => ?_⟩
      simp only [List.getElem?_take, List.getElem?_drop] at hd
      split at hd
      · rename_i hi
        simp [List.getElem?_range hi] at hv
        subst hv
        exact hr _ _ hd
      · cases hd
    cases d
    case struct fs =>
      obtain ⟨hl, hK⟩ := hK
      refine ⟨_, _, ?_, (reps hl).agg, hK⟩
      simp [loadVar, hag, hsz, many hl, Result.andThen]
    case array n e =>
      obtain ⟨hl, hK⟩ := hK
      refine ⟨_, _, ?_, (reps hl).agg, hK⟩
      simp [loadVar, hag, hsz, many hl, Result.andThen]
    all_goals
      obtain ⟨hl, hK⟩ := hK
      have hd : cs[off]? = some (cs.getD off .undef) := by simp [List.getD, List.getElem?_eq_getElem hl]
      refine ⟨vs off, _, ?_, hr off _ hd, hK⟩
      have := hc off _ hd
      simp [loadVar, hag, this, Result.andThen]

/-- A box, read. -/
theorem Rel.boxRead (h : Rel P base w0 Γ H w) {i b : Nat} {cs : List D} (hi : H i = some (.cells cs)) (hb : Γ.box i b) :
    ∃ vs : Nat → Value, (∀ (j : Nat) d, cs[j]? = some d → w.cell? ((⟨b, 0, none⟩ : Addr).add j) = some (vs j)) ∧ (∀ (j : Nat) d, cs[j]? = some d → Rep P Γ d (vs j)) := by
  obtain ⟨_, b', vs', T, fr, x1, x2, x3, x4, x5, x6⟩ := h.boxOf i cs hi
  obtain rfl := h.boxFun _ _ _ hb x1
  refine ⟨fun j => vs'.getD j undef, fun j d hj => ?_, fun j d hj => ?_⟩
  · obtain ⟨v, hv, _⟩ := x6 j d hj
    rw [Addr.add_lit, Nat.zero_add, cell_of_row w b j vs' T fr x3]
    simp [hv]
  · obtain ⟨v, hv, hr, _⟩ := x6 j d hj
    simpa [hv] using hr

theorem load_still (h : Rel P base w0 Γ H w) {t : TypeId} {x : D} {v : Value} {K : D → Prop} (hx : Rep P Γ x v) (hK : pLoad P t x H K) : Still P Γ w (Instr.loadAt t v) K := by
  unfold pLoad at hK
  cases hx <;> simp only at hK
  case ptr i off b hb =>
    split at hK
    · rename_i cs hi
      obtain ⟨vs, hc, hr⟩ := h.boxRead hi hb
      have := loadVar_still (w := w) (ad := ⟨b, 0, none⟩) hc hr hK
      simpa [Still, Instr.loadAt, Instr.sureAddr, Addr.add_lit] using this
    · exact hK.elim
  case obj cs off ad vs hk hr =>
    have := loadVar_still (w := w) (ad := ad) (fun i d hd => (h.know _ _ (hk i d hd)).1) hr hK
    simpa [Still, Instr.loadAt, Instr.sureAddr] using this

theorem field_still {t : TypeId} {x : D} {v : Value} {f : Nat} {K : D → Prop} (hx : Rep P Γ x v) (hK : pField P t x f K) : Still P Γ w (Instr.field t v f) K := by
  unfold pField at hK
  split at hK
  · rename_i cs fs hu
    obtain ⟨vs, rfl, hr⟩ := RepAll.ofAgg hx
    split at hK
    · rename_i fd hf
      obtain ⟨v, d, h1, h2, h3⟩ := part_still (w := w) hr hK
      exact ⟨v, d, by simp [Instr.field, run_underlying hu, hf, asAgg, h1], h2, h3⟩
    · exact hK.elim
  · exact hK.elim

theorem fieldAddr_still {t : TypeId} {x : D} {v : Value} {f : Nat} {K : D → Prop} (hx : Rep P Γ x v) (hK : pFieldAddr P t x f K) : Still P Γ w (Instr.fieldAt t v f) K := by
  unfold pFieldAddr at hK
  split at hK
  · rename_i fs hu
    split at hK
    · rename_i fd hf
      obtain ⟨h0, hK⟩ := hK
      have hsz : ∀ w, (sizeOf fd.type).run P w = .ok (szOf P fd.type) w := by
        intro w
        unfold szOf at h0 ⊢
        cases hi : P.info? fd.type with
        | none => simp [hi] at h0
        | some i => simp [sizeOf, typeInfo, hi]
      have hne : szOf P fd.type ≠ 0 := by omega
      cases hx <;> simp only at hK
      case ptr i off b hb => exact ⟨_, _, by simp [Instr.fieldAt, run_underlying hu, hf, Instr.sureAddr, fieldPlace, hsz, hne, Addr.add_lit], .ptr i (off + fd.offset) b hb, hK⟩
      case obj cs off ad vs hk hr => exact ⟨_, _, by simp [Instr.fieldAt, run_underlying hu, hf, Instr.sureAddr, fieldPlace, hsz, hne, Addr.add_add], .obj cs (off + fd.offset) ad vs hk hr, hK⟩
    · exact hK.elim
  · exact hK.elim

theorem rep_int {k : IntKind} {n : Int} {v : Value} (h : Rep P Γ (.val (.int k n)) v) : v = .int k n := rep_val h

theorem run_sizeOf_pos {e : TypeId} (h : 0 < szOf P e) (w : World) : (sizeOf e).run P w = .ok (szOf P e) w := by
  unfold szOf at h ⊢
  cases hi : P.info? e with
  | none => simp [hi] at h
  | some i => simp [sizeOf, typeInfo, hi]

theorem indexAddr_still {t : TypeId} {x i : D} {v vi : Value} {K : D → Prop} (hx : Rep P Γ x v) (hi : Rep P Γ i vi) (hK : pIndexAddr P t x i K) : Still P Γ w (Instr.indexAt t v vi) K := by
  unfold pIndexAddr at hK
  split at hK
  · rename_i k n
    obtain rfl := rep_int hi
    split at hK
    · rename_i e g e' l hu
      obtain ⟨rfl, hp, h0, h1, hK⟩ := hK
      have hsz := run_sizeOf_pos hp w
      cases hx with
      | nil => simp at h1; omega
      | slice _ _ _ a ad cap vs hg hc hm ha ht hs hk hr =>
        obtain ⟨d, hd⟩ : ∃ d, l[n.toNat]? = some d := ⟨l[n.toNat]'(by omega), List.getElem?_eq_getElem _⟩
        have hgd : l.getD n.toNat .undef = d := by simp [List.getD, hd]
        have hne : l ≠ [] := by intro e; subst e; simp at hd
        obtain rfl := ha.resolve_left hne
        have hlen : (cellsD d).length = szOf P e := hs d (List.mem_of_getElem? hd)
        rw [hgd] at hK
        have hfl : ∀ (j : Nat) c, (cellsD d)[j]? = some c → (flat l)[n.toNat * szOf P e + j]? = some c := fun j c hj => by
          rw [flat_get hs _ _ _ hd (by rw [← hlen]; exact (List.getElem?_eq_some_iff.1 hj).1)]; exact hj
        have hrep : Rep P Γ (.obj (cellsD d) 0) (.pointer (some ((ad.add (n.toNat * szOf P e)).add 0))) :=
          .obj _ 0 _ (fun j => vs (n.toNat * szOf P e + j)) (fun j c hj => by rw [Addr.add_add]; exact hk _ _ (hfl j c hj)) (fun j c hj => hr _ _ (hfl j c hj))
        rw [Addr.add_zero'] at hrep
        exact ⟨_, _, by simp [Instr.indexAt, asIntOf, run_underlying hu, h0, h1, hsz], hrep, hK⟩
    · rename_i e b e' off len hu
      obtain ⟨rfl, hp, h0, h1, hK⟩ := hK
      have hsz := run_sizeOf_pos hp w
      cases hx with
      | arr _ _ _ _ bb cap hb hc hm =>
        exact ⟨_, _, by simp [Instr.indexAt, asIntOf, run_underlying hu, h0, h1, hsz, Addr.add_lit], .ptr _ _ _ hb, hK⟩
    · rename_i m e b off hu
      obtain ⟨hp, h0, h1, hK⟩ := hK
      have hsz := run_sizeOf_pos hp w
      cases hx with
      | ptr _ _ bb hb => exact ⟨_, _, by simp [Instr.indexAt, asIntOf, run_underlying hu, Instr.sureAddr, h0, h1, hsz, Addr.add_lit], .ptr _ _ _ hb, hK⟩
    · rename_i m e cs off hu
      obtain ⟨hp, h0, h1, hK⟩ := hK
      have hsz := run_sizeOf_pos hp w
      cases hx with
      | obj _ _ ad vs hk hr => exact ⟨_, _, by simp [Instr.indexAt, asIntOf, run_underlying hu, Instr.sureAddr, h0, h1, hsz, Addr.add_add], .obj _ _ ad vs hk hr, hK⟩
    · exact hK.elim
  · exact hK.elim

theorem ba_get (s : ByteArray) (i : Nat) (h : i < s.size) : s[i]? = some (s.data.toList.getD i 0) := by
  have h' : i < s.data.toList.length := by simpa using h
  rw [getElem?_pos s i h, List.getD, List.getElem?_eq_getElem h']
  rfl
theorem deq_beq (a b : List UInt8) : (a == b) = decide (a = b) := by by_cases h : a = b <;> simp [h]

theorem index_still {t : TypeId} {x i : D} {v vi : Value} {K : D → Prop} (hx : Rep P Γ x v) (hi : Rep P Γ i vi) (hK : pIndex P t x i K) : Still P Γ w (Instr.index t v vi) K := by
  unfold pIndex at hK
  split at hK
  · rename_i s k n
    obtain rfl := rep_int hi
    obtain rfl := rep_val hx
    obtain ⟨hu, h0, h1, hK⟩ := hK
    have hb := ba_get s n.toNat (by have : s.data.toList.length = s.size := by simp
                                    omega)
    refine ⟨.int .u8 (byteAt s.data.toList n.toNat), _, ?_, .val _, hK⟩
    simp only [Instr.index, asIntOf, run_underlying hu, h0, if_true, hb, Sem.run_bind, Sem.run_pure, Result.andThen_ok, byteAt]
  · rename_i cs k n
    obtain rfl := rep_int hi
    obtain ⟨vs, rfl, hr⟩ := RepAll.ofAgg hx
    split at hK
    · rename_i m e hu
      obtain ⟨hp, h0, h1, hK⟩ := hK
      have hsz := run_sizeOf_pos hp w
      obtain ⟨v, d, r1, r2, r3⟩ := part_still (w := w) hr hK
      exact ⟨v, d, by simp [Instr.index, asIntOf, run_underlying hu, h0, h1, hsz, r1], r2, r3⟩
    · exact hK.elim
  · exact hK.elim

theorem extract_still {x : D} {v : Value} {i : Nat} {K : D → Prop} (hx : Rep P Γ x v) (hK : pExtract x i K) : Still P Γ w (Instr.extract v i) K := by
  unfold pExtract at hK
  split at hK
  · rename_i vs
    cases hx with
    | tup cs vs' hl hr =>
      obtain ⟨hi, hK⟩ := hK
      obtain ⟨v, hv⟩ : ∃ v, vs'[i]? = some v := ⟨vs'[i]'(by rw [← hl]; exact hi), List.getElem?_eq_getElem _⟩
      have hd : vs[i]? = some (vs.getD i .undef) := by simp [List.getD, List.getElem?_eq_getElem hi]
      exact ⟨v, _, by simp [Instr.extract, hv], hr i _ v hd hv, hK⟩
  · exact hK.elim

theorem eqCell_run {kd : FK} {x y : D} {c : Bool} {f : Field} {k : Nat} (w : World) (d : Nat) (hk : fieldKind P (f, k) = some kd) (hc : eqCell kd x y = some c) :
    (f.offset = k ∧ f.name ≠ "_") ∧ (isAgg f.type).run P w = .ok false w ∧ ∀ vx vy, Rep P Γ x vx → Rep P Γ y vy → (Op.equalIn (d + 1) f.type vx vy).run P w = .ok c w := by
  unfold fieldKind at hk
  split at hk
  case isFalse => cases hk
  rename_i ho
  refine ⟨ho, ?_⟩
  simp only at hk
  cases hu : P.underlying f.type with
  | none => simp [hu] at hk
  | some u =>
    cases u <;> simp only [hu, reduceCtorEq, Option.some.injEq] at hk <;> subst hk <;> refine ⟨by rw [run_isAgg_desc hu], ?_⟩ <;> intro vx vy h1 h2
    case string =>
      unfold eqCell at hc
      split at hc <;> first | contradiction | skip
      simp only [Option.some.injEq] at hc
      subst hc
      rw [rep_val h1, rep_val h2, run_equalIn_string w d f.type _ _ hu, ByteArray.toList_eq, ByteArray.toList_eq, deq_beq]
    case bool =>
      unfold eqCell at hc
      split at hc <;> first | contradiction | skip
      simp only [Option.some.injEq] at hc
      subst hc
      rw [rep_val h1, rep_val h2, run_equalIn_bool' w d f.type _ _ hu]
    case int ki =>
      unfold eqCell at hc
      split at hc
      · cases ‹FK.i = FK.s›
      · split at hc
        · cases hc
          rename_i kx a ky b' _ hkk
          subst hkk
          rw [rep_val h1, rep_val h2, run_equalIn_int w d f.type kx ki a b' hu]
          by_cases e : a = b' <;> simp [e]
        · cases hc
      · cases ‹FK.i = FK.b›
      · cases hc

theorem eqFields_run (w : World) (d : Nat) (xs ys : List Value) : ∀ (fs : List Field) (k : Nat) (ks : List FK) (dx dy : List D) (b : Bool), (fs.zipIdx k).mapM (fieldKind P) = some ks →
    RepAll P Γ dx (xs.drop k) → RepAll P Γ dy (ys.drop k) → eqCells ks dx dy = some b → (Op.eqFields (d + 1) xs.toArray ys.toArray fs).run P w = .ok b w
  | [], k, ks, dx, dy, b, hk, _, _, he => by
    simp at hk; subst hk
    cases dx <;> cases dy <;> simp [eqCells] at he
    subst he
    rfl
  | f :: fs, k, ks, dx, dy, b, hf, rx, ry, he => by
    rw [List.zipIdx_cons, List.mapM_cons] at hf
    cases hk1 : fieldKind P (f, k) with
    | none => simp [hk1] at hf
    | some kd =>
      cases hk2 : (fs.zipIdx (k + 1)).mapM (fieldKind P) with
      | none => simp [hk1, hk2] at hf
      | some ks' =>
        simp [hk1, hk2] at hf
        subst hf
        cases dx with
        | nil => simp [eqCells] at he
        | cons x dx' =>
        cases dy with
        | nil => simp [eqCells] at he
        | cons y dy' =>
        simp only [eqCells] at he
        cases hc : eqCell kd x y with
        | none => simp [hc] at he
        | some c =>
        cases hr : eqCells ks' dx' dy' with
        | none => simp [hc, hr] at he
        | some r =>
        simp [hc, hr] at he
        subst he
        obtain ⟨⟨ho, hnm⟩, hnag, heq⟩ := eqCell_run (Γ := Γ) w d hk1 hc
        have hkx : k < xs.length := by have := rx.1; simp at this; omega
        have hky : k < ys.length := by have := ry.1; simp at this; omega
        have gx : (xs.drop k)[0]? = some xs[k] := by simp [hkx]
        have gy : (ys.drop k)[0]? = some ys[k] := by simp [hky]
        have tx : RepAll P Γ dx' (xs.drop (k + 1)) := ⟨by have := rx.1; simp at this ⊢; omega, fun i d v hd hv => rx.2 (i + 1) d v (by simpa using hd) (by simp at hv ⊢; rw [← hv]; congr 1; omega)⟩
        have ty : RepAll P Γ dy' (ys.drop (k + 1)) := ⟨by have := ry.1; simp at this ⊢; omega, fun i d v hd hv => ry.2 (i + 1) d v (by simpa using hd) (by simp at hv ⊢; rw [← hv]; congr 1; omega)⟩
        have ih := eqFields_run w d xs ys fs (k + 1) ks' dx' dy' r hk2 tx ty hr
        have hpx : (part f.type xs.toArray f.offset).run P w = .ok xs[k] w := by simp [part, hnag, ho, hkx]
        have hpy : (part f.type ys.toArray f.offset).run P w = .ok ys[k] w := by simp [part, hnag, ho, hky]
        have he := heq _ _ (rx.2 0 x _ rfl gx) (ry.2 0 y _ rfl gy)
        simp only [Op.eqFields, ne_eq, hnm, not_false_eq_true, if_true, Sem.run_bind, hpx, hpy, Result.andThen_ok, he]
        cases c
        · simp
        · simpa using ih

theorem equalIn_slice_nil (w : World) (d : Nat) (t e : TypeId) (a : Option Addr) (n c : Nat) (h : P.underlying t = some (.slice e)) :
    (Op.equalIn (d + 1) t (.slice a n c) (.slice none 0 0)).run P w = .ok a.isNone w := by
  cases a <;> simp [Op.equalIn, run_underlying h]
theorem eql_slice_nil (w : World) (t e : TypeId) (a : Option Addr) (n c : Nat) (h : P.underlying t = some (.slice e)) :
    (binOp .eql t (.slice a n c) (.slice none 0 0)).run P w = .ok (.bool a.isNone) w := by
  simp only [binOp]
  simp [Op.equal, Op.maxDepth, equalIn_slice_nil w 9999 t e a n c h]
theorem neq_slice_nil (w : World) (t e : TypeId) (a : Option Addr) (n c : Nat) (h : P.underlying t = some (.slice e)) :
    (binOp .neq t (.slice a n c) (.slice none 0 0)).run P w = .ok (.bool (!a.isNone)) w := by
  simp only [binOp]
  simp [Op.equal, Op.maxDepth, equalIn_slice_nil w 9999 t e a n c h]
theorem pEq_some {op : BinOp} {r : Option Bool} {K : D → Prop} (h : pEq op r K) : ∃ b, r = some b ∧ ((op = .eql ∧ K (.val (.bool b))) ∨ (op = .neq ∧ K (.val (.bool (!b))))) := by
  unfold pEq at h
  split at h
  · exact ⟨_, rfl, .inl ⟨rfl, h⟩⟩
  · exact ⟨_, rfl, .inr ⟨rfl, h⟩⟩
  · exact h.elim
theorem rep_nil {e : TypeId} {v : Value} (h : Rep P Γ (.slice 1 e []) v) : v = .slice none 0 0 := by
  cases h with
  | nil => rfl
  | slice g e l a ad cap vs hg => exact absurd rfl hg
theorem isNil_slice {x : D} {v : Value} {b : Bool} (hx : Rep P Γ x v) (hb : isNilD x = some b) : ∃ a n c, v = .slice a n c ∧ a.isNone = b := by
  cases hx with
  | nil e => simp [isNilD] at hb; exact ⟨_, _, _, rfl, by simp [hb]⟩
  | slice g e l a ad cap vs hg hc hm ha ht =>
    simp only [isNilD, hg, if_false] at hb
    split at hb
    · rename_i h2
      obtain ⟨bb, rfl, _⟩ := ht h2
      cases hb
      exact ⟨_, _, _, rfl, rfl⟩
    · split at hb
      · cases hb
      · cases hb
        rcases ha with h | h
        · cases h
        · subst h; exact ⟨_, _, _, rfl, rfl⟩
  | arr i e off len b cap hb' hc hm => simp [isNilD] at hb; subst hb; exact ⟨_, _, _, rfl, rfl⟩
  | _ => simp [isNilD] at hb
theorem isNil_pointer {x : D} {v : Value} {b : Bool} (hx : Rep P Γ x v) (hb : isNilP x = some b) : ∃ a, v = .pointer a ∧ a.isNone = b := by
  cases hx with
  | val v => unfold isNilP at hb; split at hb <;> first | (cases hb; done) | (rename_i h; cases h; done) | (rename_i h; cases h; cases hb; exact ⟨_, rfl, rfl⟩)
  | ptr i off b hb' => simp [isNilP] at hb; subst hb; exact ⟨_, rfl, rfl⟩
  | obj cs off ad vs hk hr => simp [isNilP] at hb; subst hb; exact ⟨_, rfl, rfl⟩
  | _ => simp [isNilP] at hb
theorem flatKinds_fields {t : TypeId} {ks : List FK} (h : flatKinds P t = some ks) :
    P.underlying t = some (.struct (P.fieldsOf t)) ∧ P.stoodInHeld t = false ∧ P.eqGuardType P.depth t = false ∧ ((P.fieldsOf t).toList.zipIdx 0).mapM (fieldKind P) = some ks := by
  unfold flatKinds at h
  split at h
  · rename_i fs hu
    split at h
    · rename_i hc
      have hf : P.fieldsOf t = fs := by simp [Program.fieldsOf, hu]
      exact ⟨by rw [hf, hu], hc.1, hc.2, by rw [hf]; exact h⟩
    · cases h
  · cases h
theorem agg_equal_run {t : TypeId} {ks : List FK} {xs ys : List D} {vs us : List Value} {b : Bool} (w : World) (hf : flatKinds P t = some ks) (hr : RepAll P Γ xs vs) (hs : RepAll P Γ ys us)
    (hb : eqCells ks xs ys = some b) : (Op.equalIn 10000 t (.agg vs.toArray) (.agg us.toArray)).run P w = .ok b w := by
  obtain ⟨h1, h2, h3, h4⟩ := flatKinds_fields hf
  rw [run_equalIn_agg w 9999 t _ _ h1 h2]
  exact eqFields_run w 9998 vs us _ 0 ks xs ys b h4 (by simpa using hr) (by simpa using hs) hb
theorem bin_still {op : BinOp} {t : TypeId} {x y : D} {vx vy : Value} {K : D → Prop} (hx : Rep P Γ x vx) (hy : Rep P Γ y vy) (hK : pBin P op t x y K) : Still P Γ w (binOp op t vx vy) K := by
  unfold pBin at hK
  split at hK
  · rename_i k a k' b
    obtain rfl := rep_int hx
    obtain rfl := rep_int hy
    split at hK
    · obtain ⟨h0, hK⟩ := hK
      exact ⟨_, _, by simp [binOp, Op.shift, show ¬ b < 0 by omega], .val _, hK⟩
    · obtain ⟨h0, hK⟩ := hK
      exact ⟨_, _, by simp [binOp, Op.shift, show ¬ b < 0 by omega], .val _, hK⟩
    · rename_i n1 n2
      obtain ⟨rfl, hK⟩ := hK
      cases op <;> simp only [intBin] at hK
      case quo => obtain ⟨h0, hK⟩ := hK; exact ⟨_, _, by simp [binOp, Op.intDiv, h0], .val _, hK⟩
      case rem => obtain ⟨h0, hK⟩ := hK; exact ⟨_, _, by simp [binOp, Op.intDiv, h0], .val _, hK⟩
      case eql => exact ⟨.bool (a == b), _, by simp [binOp, Op.intCmp], by rw [show (a == b) = decide (a = b) by by_cases h : a = b <;> simp [h]]; exact .val _, hK⟩
      case neq => exact ⟨.bool (a != b), _, by simp [binOp, Op.intCmp], by rw [show (a != b) = !decide (a = b) by by_cases h : a = b <;> simp [h]]; exact .val _, hK⟩
      all_goals exact ⟨_, _, by first | (simp [binOp, Op.intCmp]; done) | (simp [binOp, Op.intArith]; done) | (simp [binOp, Op.intBits]; done), .val _, hK⟩
  · rename_i a b
    obtain rfl := rep_val hx
    obtain rfl := rep_val hy
    cases op <;> simp only [strBin] at hK
    case add =>
      obtain ⟨h0, hK⟩ := hK
      refine ⟨.string (a ++ b), _, by rw [binOp_string_add]; exact run_string_add_sum w a b (by simpa using h0), .val _, ?_⟩
      have e : a ++ b = ⟨(a.data.toList ++ b.data.toList).toArray⟩ := by apply ByteArray.ext; apply Array.ext'; simp
      rw [e]; exact hK
    case eql => exact ⟨_, _, by rw [binOp_string_eql]; (try simp only [ByteArray.toList_eq, deq_beq]); (try rfl), .val _, hK⟩
    case neq => exact ⟨_, _, by rw [binOp_string_neq]; (try simp only [ByteArray.toList_eq, deq_beq]); (try rfl), .val _, hK⟩
    case lss => exact ⟨_, _, by rw [binOp_string_lss]; (try simp only [ByteArray.toList_eq, deq_beq]); (try rfl), .val _, hK⟩
    case leq => exact ⟨_, _, by rw [binOp_string_leq]; (try simp only [ByteArray.toList_eq, deq_beq]); (try rfl), .val _, hK⟩
    case gtr => exact ⟨_, _, by rw [binOp_string_gtr]; (try simp only [ByteArray.toList_eq, deq_beq]); (try rfl), .val _, hK⟩
    case geq => exact ⟨_, _, by rw [binOp_string_geq]; (try simp only [ByteArray.toList_eq, deq_beq]); (try rfl), .val _, hK⟩
  · rename_i a b
    obtain rfl := rep_val hx
    obtain rfl := rep_val hy
    split at hK
    · obtain ⟨hu, hK⟩ := hK
      exact ⟨_, _, run_eql_bool w t a b hu, .val _, hK⟩
    · obtain ⟨hu, hK⟩ := hK
      exact ⟨_, _, run_neq_bool w t a b hu, .val _, hK⟩
    · exact hK.elim
  · rename_i xs ys
    split at hK
    · rename_i ks hf
      obtain ⟨vs, rfl, hr⟩ := RepAll.ofAgg hx
      obtain ⟨us, rfl, hs⟩ := RepAll.ofAgg hy
      obtain ⟨b, hb, hE⟩ := pEq_some hK
      have he := agg_equal_run w hf hr hs hb
      clear hK
      rcases hE with ⟨rfl, hK⟩ | ⟨rfl, hK⟩
      · exact ⟨_, _, by rw [run_eql_struct, he]; rfl, .val _, hK⟩
      · exact ⟨_, _, by rw [run_neq_struct, he]; rfl, .val _, hK⟩
    · exact hK.elim
  · obtain ⟨⟨e, hu⟩, hK⟩ := hK
    obtain ⟨b, hb, hE⟩ := pEq_some hK
    obtain ⟨a, n, c, rfl, rfl⟩ := isNil_slice hx hb
    obtain rfl := rep_nil hy
    clear hK
    rcases hE with ⟨rfl, hK⟩ | ⟨rfl, hK⟩
    · exact ⟨_, _, eql_slice_nil w t e a n c hu, .val _, hK⟩
    · exact ⟨_, _, neq_slice_nil w t e a n c hu, .val _, hK⟩
  · obtain ⟨⟨e, hu⟩, hK⟩ := hK
    obtain ⟨b, hb, hE⟩ := pEq_some hK
    obtain ⟨a, rfl, rfl⟩ := isNil_pointer hx hb
    obtain rfl := rep_val hy
    have hu' : P.underlying t = some (.pointer (P.pointee t)) := by simp [Program.pointee, hu]
    clear hK
    rcases hE with ⟨rfl, hK⟩ | ⟨rfl, hK⟩
    · exact ⟨_, _, run_eql_pointer_nil w t a hu', .val _, hK⟩
    · exact ⟨_, _, run_neq_pointer_nil w t a hu', .val _, hK⟩
  · exact hK.elim

theorem un_still {op : UnOp} {x : D} {v : Value} {K : D → Prop} (hx : Rep P Γ x v) (hK : pUn op x K) : Still P Γ w (Op.unary op v) K := by
  unfold pUn at hK
  split at hK
  · obtain rfl := rep_val hx
    exact ⟨_, _, by simp only [Op.unary, Op.intArith, Sem.run_pure], .val _, hK⟩
  · obtain rfl := rep_val hx
    exact ⟨_, _, by simp only [Op.unary, Sem.run_pure], .val _, hK⟩
  · exact hK.elim

/-- Of an optional bound. -/
def RepO (P : Program) (Γ : Gh) : Option D → Option Value → Prop
  | none, none => True
  | some d, some v => Rep P Γ d v
  | _, _ => False
theorem RepO.ev {st : PSt} {a : Act} (h : EnvRep P Γ st.env a.tmps) (x : Option Operand) : RepO P Γ (x.map st.ev) (x.map a.eval) := by
  cases x with
  | none => trivial
  | some x => exact h.ev x
theorem bounds_run {lo hi : Option D} {vl vh : Option Value} {len : Nat} {K : Nat → Nat → Prop} (hl : RepO P Γ lo vl) (hh : RepO P Γ hi vh) (hK : pBounds lo hi len K) (b : Bool) (cap : Nat) (hc : len ≤ cap) :
    ∃ l h, (Instr.sliceBounds b len cap vl vh none).run P w = .ok (l, h, cap) w ∧ l ≤ h ∧ h ≤ len ∧ K l h := by
  unfold pBounds at hK
  split at hK
  · cases vl <;> cases vh <;> simp only [RepO] at hl hh
    exact ⟨0, len, by simp [Instr.sliceBounds], by omega, by omega, hK⟩
  · rename_i k l
    cases vl <;> cases vh <;> simp only [RepO] at hl hh
    obtain rfl := rep_int hl
    obtain ⟨h0, h1, hK⟩ := hK
    exact ⟨l.toNat, len, by simp [Instr.sliceBounds, run_sliceBound, h0, h1], by omega, by omega, hK⟩
  · rename_i k h
    cases vl <;> cases vh <;> simp only [RepO] at hl hh
    obtain rfl := rep_int hh
    obtain ⟨h0, h1, hK⟩ := hK
    exact ⟨0, h.toNat, by simp [Instr.sliceBounds, run_sliceBound, h0, show h ≤ (cap : Int) by omega], by omega, by omega, hK⟩
  · rename_i k l k' h
    cases vl <;> cases vh <;> simp only [RepO] at hl hh
    obtain rfl := rep_int hl
    obtain rfl := rep_int hh
    obtain ⟨h0, h1, h2, hK⟩ := hK
    have e : ((h.toNat : Nat) : Int) = h := by omega
    exact ⟨l.toNat, h.toNat, by simp [Instr.sliceBounds, run_sliceBound w k' h cap _ (by omega) (by omega), run_sliceBound w k l h.toNat _ h0 (by omega)], by omega, by omega, hK⟩
  · exact hK.elim

theorem flat_drop {e : TypeId} : ∀ {l : List D} (_ : ∀ d ∈ l, (cellsD d).length = szOf P e) (a : Nat), flat (l.drop a) = (flat l).drop (a * szOf P e)
  | [], _, a => by simp [flat]
  | d :: l, h, 0 => by simp
  | d :: l, h, a + 1 => by
    have hx := h d (by simp)
    rw [List.drop_succ_cons, flat_cons, flat_drop (fun y hy => h y (by simp [hy])) a, Nat.add_mul, Nat.one_mul, Nat.add_comm (a * szOf P e), ← List.drop_drop, List.drop_append_of_le_length (by omega), ← hx, List.drop_length, List.nil_append]
theorem flat_take {e : TypeId} : ∀ {l : List D} (_ : ∀ d ∈ l, (cellsD d).length = szOf P e) (a : Nat), flat (l.take a) = (flat l).take (a * szOf P e)
  | [], _, a => by simp [flat]
  | d :: l, h, 0 => by simp [flat]
  | d :: l, h, a + 1 => by
    have hx := h d (by simp)
    rw [List.take_succ_cons, flat_cons, flat_cons, flat_take (fun y hy => h y (by simp [hy])) a, Nat.add_mul, Nat.one_mul, List.take_append, hx]
    rw [List.take_of_length_le (l := cellsD d) (by omega), show a * szOf P e + szOf P e - szOf P e = a * szOf P e by omega]

theorem subArr_rep {i : Nat} {e : TypeId} {off sz a b bb cap : Nat} (hb : Γ.box i bb) (hc : b ≤ cap) (hm : cap ≤ maxLen) (h1 : a ≤ b) (h2 : b ≤ cap) : Rep P Γ (subArr i e off sz a b) (sliced (some ⟨bb, off, none⟩) a b cap sz) := by
  unfold subArr
  split
  · have hca : cap ≠ a := by omega
    have := Rep.arr (P := P) (Γ := Γ) i e (off + a * sz) (b - a) bb (cap - a) hb (by omega) (by omega)
    rw [sliced, if_neg hca, Option.map_some, Addr.add_lit]
    exact this
  · have hz : b - a = 0 := by omega
    have := Rep.slice (P := P) (Γ := Γ) 0 e [] (if cap = a then some ⟨bb, off, none⟩ else some (Addr.add ⟨bb, off, none⟩ (a * sz))) ⟨0, 0, none⟩ (cap - a) (fun _ => undef) (by omega) (by simp) (by omega) (.inl rfl) (by omega) (by simp) (by simp [flat]) (by simp [flat])
    by_cases q : cap = a <;> simpa [sliced, q, hz] using this

theorem slice_still {t : TypeId} {x : D} {v : Value} {lo hi : Option D} {vl vh : Option Value} {K : D → Prop} (hx : Rep P Γ x v) (hl : RepO P Γ lo vl) (hh : RepO P Γ hi vh) (hK : pSlice P t x lo hi K) :
    Still P Γ w (Instr.sliceAt t v vl vh none) K := by
  unfold pSlice at hK
  split at hK
  · rename_i s hu
    obtain rfl := rep_val hx
    have hlen : s.data.toList.length = s.size := by simp
    obtain ⟨l, h, hr, h1, h2, hK⟩ := bounds_run (w := w) hl hh hK false s.size (by omega)
    rw [hlen] at hr
    have he : s.extract l h = ⟨((s.data.toList.take h).drop l).toArray⟩ := by
      apply ByteArray.ext; apply Array.ext'
      simp [List.drop_take]
    rw [← he] at hK
    exact ⟨_, _, by rw [run_sliceAt_string w t _ _ _ _ hu]; simp only [Instr.slice, Sem.run_bind, run_underlying hu, hr, Result.andThen_ok, Option.isSome_none, Bool.false_eq_true, if_false, Sem.run_pure], .val _, hK⟩
  · rename_i e g e' l hu
    obtain ⟨hp, he, hK⟩ := hK
    have hsz := run_sizeOf_pos hp w
    have hat : ∀ a n c, (Instr.sliceAt t (.slice a n c) vl vh none).run P w = ((Instr.sliceBounds true n c vl vh none).run P w).andThen fun b w => ((sizeOf e).run P w).andThen fun s w => .ok (sliced a b.1 b.2.1 b.2.2 s) w := by
      intro a n c
      simp only [Instr.sliceAt, Sem.run_bind, run_underlying hu, Result.andThen_ok]
      simp only [Instr.slice, Sem.run_bind, run_underlying hu, Result.andThen_ok]
      cases (Instr.sliceBounds true n c vl vh none).run P w <;> simp [Result.andThen, sliced]
    cases hx with
    | nil =>
      obtain ⟨a, b, hr, h1, h2, hK⟩ := bounds_run (w := w) hl hh hK true 0 (Nat.le_refl _)
      simp at h2; subst h2
      have : a = 0 := by omega
      subst this
      have hr' : (Instr.sliceBounds true 0 0 vl vh none).run P w = .ok (0, 0, 0) w := hr
      refine ⟨.slice none 0 0, _, ?_, ?_, hK⟩
      · rw [hat, hr']; simp [hsz, sliced]
      · have := Rep.slice (P := P) (Γ := Γ) 0 e [] none ⟨0, 0, none⟩ 0 (fun _ => undef) (by omega) (by simp) (by simp [maxLen]) (.inl rfl) (by omega) (by simp) (by simp [flat]) (by simp [flat])
        simpa using this
    | slice _ _ _ ao ad cap vs hg hc hm ha ht hs hk hr0 =>
      obtain ⟨a, b, hr, h1, h2, hK⟩ := bounds_run (w := w) hl hh hK true cap hc
      have hlen : ((l.take b).drop a).length = b - a := by simp; omega
      refine ⟨sliced ao a b cap (szOf P e), _, ?_, ?_, hK⟩
      · rw [hat, hr]; simp [hsz]
      · rcases Nat.eq_zero_or_pos (b - a) with hz | hz
        · have hnil : (l.take b).drop a = [] := List.eq_nil_of_length_eq_zero (by omega)
          rw [hnil]
          have := Rep.slice (P := P) (Γ := Γ) 0 e [] (if cap = a then ao else ao.map (·.add (a * szOf P e))) ⟨0, 0, none⟩ (cap - a) (fun _ => undef) (by omega) (by simp) (by omega) (.inl rfl) (by omega) (by simp) (by simp [flat]) (by simp [flat])
          simpa [sliced, hz] using this
        · have hne : l ≠ [] := by intro e; subst e; simp at h2; omega
          obtain rfl := ha.resolve_left hne
          obtain rfl := he.resolve_right hne
          have hca : cap ≠ a := by omega
          have hs' : ∀ d ∈ (l.take b).drop a, (cellsD d).length = szOf P e := fun d hd => hs d (List.mem_of_mem_take (List.mem_of_mem_drop hd))
          have hst : ∀ d ∈ l.take b, (cellsD d).length = szOf P e := fun d hd => hs d (List.mem_of_mem_take hd)
          have hfl : ∀ (i : Nat) d, (flat ((l.take b).drop a))[i]? = some d → (flat l)[a * szOf P e + i]? = some d := by
            intro i d hd
            rw [flat_drop hst, flat_take hs, List.getElem?_drop, List.getElem?_take] at hd
            split at hd
            · exact hd
            · cases hd
          have := Rep.slice (P := P) (Γ := Γ) 0 e ((l.take b).drop a) (some (ad.add (a * szOf P e))) (ad.add (a * szOf P e)) (cap - a) (fun i => vs (a * szOf P e + i)) (by omega) (by omega) (by omega) (.inr rfl) (by omega) hs'
            (fun i d hd => by rw [Addr.add_add]; exact hk _ _ (hfl i d hd)) (fun i d hd => hr0 _ _ (hfl i d hd))
          simpa [sliced, hca, hlen] using this
  · rename_i e i e' off len hu
    obtain ⟨hp, rfl, hK⟩ := hK
    have hsz := run_sizeOf_pos hp w
    cases hx with
    | arr _ _ _ _ bb cap hb hc hm =>
      obtain ⟨a, b, hr, h1, h2, hK⟩ := bounds_run (w := w) hl hh hK true cap hc
      have hat : (Instr.sliceAt t (.slice (some ⟨bb, off, none⟩) len cap) vl vh none).run P w = .ok (sliced (some ⟨bb, off, none⟩) a b cap (szOf P e)) w := by
        simp only [Instr.sliceAt, Sem.run_bind, run_underlying hu, Result.andThen_ok]
        simp only [Instr.slice, Sem.run_bind, run_underlying hu, Result.andThen_ok, hr, hsz]
        simp [sliced]
      exact ⟨_, _, hat, subArr_rep hb (by omega) hm h1 (by omega), hK⟩
  · rename_i n e i off hu
    obtain ⟨hp, hn, hK⟩ := hK
    have hsz := run_sizeOf_pos hp w
    cases hx with
    | ptr _ _ bb hb =>
      obtain ⟨a, b, hr, h1, h2, hK⟩ := bounds_run (w := w) hl hh hK false n (Nat.le_refl _)
      have hat : (Instr.sliceAt t (.pointer (some ⟨bb, off, none⟩)) vl vh none).run P w = .ok (sliced (some ⟨bb, off, none⟩) a b n (szOf P e)) w := by
        simp only [Instr.sliceAt, Sem.run_bind, run_underlying hu, Result.andThen_ok, Instr.sureAddr, Sem.run_pure, hr, hsz]
        by_cases q : n = a <;> simp [sliced, q]
      exact ⟨_, _, hat, subArr_rep hb h2 hn h1 h2, hK⟩
  · exact hK.elim

theorem makeInterface_still {t : TypeId} {x : D} {v : Value} {K : D → Prop} (hx : Rep P Γ x v) (hK : pMakeInterface P t x K) : Still P Γ w (Instr.makeInterface t v) K := by
  unfold pMakeInterface at hK
  split at hK
  · exact hK.elim
  · rename_i d hd hu
    have hrun : (Instr.makeInterface t v).run P w = .ok (.iface t v) w := by
      simp only [Instr.makeInterface, Sem.run_bind, run_underlying hu, Result.andThen_ok]
      cases d <;> first | rfl | exact absurd rfl (hd _)
    split at hK
    · obtain rfl := rep_val hx
      exact ⟨_, _, hrun, .val _, hK⟩
    · exact ⟨_, _, hrun, .ifc _ _ _ hx, hK⟩
  · exact hK.elim

/-! ### Values of several cells -/
theorem oneD_rep {d : D} {v : Value} (h : oneD d = true) (hr : Rep P Γ d v) : v.oneCell' = true := by
  cases hr <;> simp_all [oneD, Value.oneCell']
theorem cells_one {v : Value} (h : v.oneCell' = true) : v.cells = #[v] := by
  cases v <;> simp_all [Value.oneCell', Value.cells]
/-- A part's cells, as values. -/
theorem part_cells {d : D} {v : Value} (h : okPart d = true) (hr : Rep P Γ d v) : RepAll P Γ (cellsD d) v.cells.toList ∧ ∀ u ∈ v.cells.toList, u.oneCell' = true := by
  unfold okPart at h
  split at h
  · rename_i cs
    obtain ⟨vs, rfl, ha⟩ := RepAll.ofAgg hr
    refine ⟨by simpa [cellsD, Value.cells] using ha, fun u hu => ?_⟩
    have hu' : u ∈ vs := by simpa [Value.cells] using hu
    obtain ⟨i, hi⟩ := List.mem_iff_getElem?.1 hu'
    have hlt : i < cs.length := by rw [ha.1]; exact (List.getElem?_eq_some_iff.1 hi).1
    have hd : cs[i]? = some cs[i] := List.getElem?_eq_getElem hlt
    exact oneD_rep (List.all_eq_true.1 h _ (List.mem_of_getElem? hd)) (ha.2 i _ u hd hi)
  · have h1 := oneD_rep h hr
    have hc : cellsD d = [d] := by cases d <;> simp_all [cellsD, oneD]
    rw [cells_one h1, hc]
    refine ⟨⟨rfl, fun i d' v' hd hv => ?_⟩, by simpa using h1⟩
    cases i with
    | zero => simp at hd hv; subst hd; subst hv; exact hr
    | succ i => simp at hd
def updV (vs : List Value) (off : Nat) : List Value → List Value
  | [] => vs
  | v :: r => updV (vs.set off v) (off + 1) r
theorem updV_length : ∀ (r vs : List Value) (off : Nat), (updV vs off r).length = vs.length
  | [], _, _ => rfl
  | v :: r, vs, off => by simp [updV, updV_length r]
theorem updD_length : ∀ (r cs : List D) (off : Nat), (updD cs off r).length = cs.length
  | [], _, _ => rfl
  | v :: r, vs, off => by simp [updD, updD_length r]
theorem RepAll.set {cs : List D} {vs : List Value} (h : RepAll P Γ cs vs) (o : Nat) {d : D} {v : Value} (hr : Rep P Γ d v) : RepAll P Γ (cs.set o d) (vs.set o v) := by
  refine ⟨by simp [h.1], fun i d' v' hd hv => ?_⟩
  rw [List.getElem?_set] at hd hv
  split at hd
  · rename_i e
    rw [if_pos e] at hv
    split at hd <;> split at hv <;> first | (cases hd; done) | (cases hv; done) | skip
    cases hd; cases hv
    exact hr
  · rename_i e
    rw [if_neg e] at hv
    exact h.2 i d' v' hd hv
theorem RepAll.upd : ∀ {ds : List D} {us : List Value} {cs : List D} {vs : List Value} (_ : RepAll P Γ cs vs) (o : Nat) (_ : RepAll P Γ ds us), RepAll P Γ (updD cs o ds) (updV vs o us)
  | [], [], _, _, h, _, _ => h
  | [], _ :: _, _, _, _, _, k => by simp [RepAll] at k
  | _ :: _, [], _, _, _, _, k => by simp [RepAll] at k
  | d :: ds, u :: us, cs, vs, h, o, k => by
    have hd : Rep P Γ d u := k.2 0 d u rfl rfl
    exact RepAll.upd (h.set o hd) (o + 1) ⟨by simpa using k.1, fun i d' v' hd hv => k.2 (i + 1) d' v' (by simpa using hd) (by simpa using hv)⟩
/-- A longer row of values whose beginning the cells tell. -/
def RepPre (P : Program) (Γ : Gh) (cs : List D) (vs : List Value) : Prop := cs.length ≤ vs.length ∧ ∀ (i : Nat) d v, cs[i]? = some d → vs[i]? = some v → Rep P Γ d v ∧ v.oneCell' = true
theorem RepPre.upd : ∀ {ds : List D} {us : List Value} {cs : List D} {vs : List Value} (_ : RepPre P Γ cs vs) (o : Nat) (_ : RepAll P Γ ds us) (_ : ∀ u ∈ us, u.oneCell' = true), RepPre P Γ (updD cs o ds) (updV vs o us)
  | [], [], _, _, h, _, _, _ => h
  | [], _ :: _, _, _, _, _, k, _ => by simp [RepAll] at k
  | _ :: _, [], _, _, _, _, k, _ => by simp [RepAll] at k
  | d :: ds, u :: us, cs, vs, h, o, k, k1 => by
    have hr : Rep P Γ d u ∧ u.oneCell' = true := ⟨k.2 0 d u rfl rfl, k1 u (by simp)⟩
    refine RepPre.upd (cs := cs.set o d) (vs := vs.set o u) ⟨by simpa using h.1, fun i d' v' hd hv => ?_⟩ (o + 1) ⟨by simpa using k.1, fun i d' v' hd hv => k.2 (i + 1) d' v' (by simpa using hd) (by simpa using hv)⟩ (fun x hx => k1 x (by simp [hx]))
    rw [List.getElem?_set] at hd hv
    split at hd
    · rename_i e
      rw [if_pos e] at hv
      split at hd <;> split at hv <;> first | (cases hd; done) | (cases hv; done) | skip
      cases hd; cases hv
      exact hr
    · rename_i e
      rw [if_neg e] at hv
      exact h.2 i d' v' hd hv
theorem updV_one : ∀ (r vs : List Value) (off : Nat), (∀ u ∈ vs, u.oneCell' = true) → (∀ u ∈ r, u.oneCell' = true) → ∀ u ∈ updV vs off r, u.oneCell' = true
  | [], _, _, h, _ => h
  | v :: r, vs, off, h, k => updV_one r (vs.set off v) (off + 1) (fun u hu => by
      rcases List.mem_or_eq_of_mem_set hu with h' | h'
      · exact h u h'
      · subst h'; exact k u (by simp)) (fun u hu => k u (by simp [hu]))

/-- A row's cells, written. -/
theorem heap_setCells (b : Nat) (T : TypeId) (fr : Nat × Nat) : ∀ (us : List Value) (o : Nat) (w : World) (vs : List Value), w.heap[b]? = some (.cells vs.toArray T fr) →
    (w.setCells b o us).heap[b]? = some (.cells (updV vs o us).toArray T fr)
  | [], _, _, _, h => h
  | u :: us, o, w, vs, h => by
    refine heap_setCells b T fr us (o + 1) _ _ ?_
    simp only [World.setCell, Array.getElem?_modify, if_true, h, Option.map_some]
    simp
theorem heap_setCells_other (b k : Nat) (hk : k ≠ b) : ∀ (us : List Value) (o : Nat) (w : World), (w.setCells b o us).heap[k]? = w.heap[k]?
  | [], _, _ => rfl
  | u :: us, o, w => by
    rw [World.setCells, heap_setCells_other b k hk us (o + 1), heap_setCell_other _ _ _ _ (by simpa using hk)]
theorem size_setCells (b : Nat) : ∀ (us : List Value) (o : Nat) (w : World), (w.setCells b o us).heap.size = w.heap.size
  | [], _, _ => rfl
  | u :: us, o, w => by rw [World.setCells, size_setCells b us (o + 1)]; simp [World.setCell]
theorem below_setCells {w0 : World} {base b : Nat} (hb : base ≤ b) : ∀ (us : List Value) (o : Nat) (w : World), Below base w0 w → Below base w0 (w.setCells b o us)
  | [], _, _, h => h
  | u :: us, o, w, h => below_setCells hb us (o + 1) _ (h.setCell (p := ⟨b, o, none⟩) hb u)

theorem store_gives (h : Rel P base w0 Γ H w) {t : TypeId} {p d : D} {vp vd : Value} {K : Heap → Prop} (hp : Rep P Γ p vp) (hd : Rep P Γ d vd) (hK : pStore P t p d H K) :
    ∃ w' H', (Instr.storeAt t vp vd).run P w = .ok () w' ∧ Rel P base w0 Γ H' w' ∧ K H' := by
  unfold pStore at hK
  split at hK
  · rename_i i off
    split at hK
    · rename_i cs hi
      obtain ⟨h0, hok, hlen, hoff, hK⟩ := hK
      cases hp with
      | ptr _ _ b hb =>
        obtain ⟨h2, b', vs, T, fr, x1, x2, x3, x4, x5, x6⟩ := h.boxOf i cs hi
        obtain rfl := h.boxFun _ _ _ hb x1
        obtain ⟨hra, hone⟩ := part_cells hok hd
        have hcl : vd.cells.toList.length = szOf P t := by rw [← hra.1]; exact hlen
        have hcell : ∀ j, j < vs.size → w.cell? ⟨b, j, none⟩ = vs[j]? := fun j _ => cell_of_row w b j vs T fr x3
        have hfz : ∀ j, j < vs.size → w.frozen? ⟨b, j, none⟩ = false := by
          intro j hj
          simp only [World.frozen?, x3]
          rcases x5 with rfl | x5
          · simp
          · simp; omega
        have hrun : (storeCells ⟨b, off, none⟩ vd.cells.toList 0).run P w = .ok () (w.setCells b (off + 0) vd.cells.toList) :=
          run_storeCells_cells b off vd.cells.toList 0 w (fun j hj => by
            rw [hcell _ (by omega)]; simp; omega) (fun j hj => hfz _ (by omega)) hone
        have hvs : w.heap[b]? = some (.cells vs.toList.toArray T fr) := by simpa using x3
        have hpre : RepPre P Γ cs vs.toList := ⟨by simpa using x4, fun j d v hd hv => by
          obtain ⟨v', hv', hr⟩ := x6 j d hd
          have : v' = v := by
            have e : vs[j]? = some v := by simpa using hv
            rw [hv'] at e; exact Option.some.inj e
          subst this; exact hr⟩
        refine ⟨w.setCells b off vd.cells.toList, _, ?_, h.setBox hi hb (below_setCells x2 _ _ _ h.below) (by rw [size_setCells]; exact Nat.le_refl _) (fun k _ hk => heap_setCells_other b k hk _ _ _)
          (updD cs off (cellsD d)) _ T fr (heap_setCells b T fr _ off w _ hvs) ?_ ?_ ?_, hK⟩
        · simp only [Instr.storeAt, Instr.sureAddr, Sem.run_bind, Sem.run_pure, Result.andThen_ok, storeVar, run_sizeOf_pos h0 w]
          have hsz : vd.cells.size = szOf P t := by rw [← hcl]; simp
          simpa [hsz] using hrun
        · rcases x5 with x5 | x5
          · exact .inl x5
          · exact .inr (by simpa [updV_length] using x5)
        · simp only [updD_length, List.size_toArray, updV_length]; simpa using x4
        · intro j d' hd'
          have hup := hpre.upd off hra hone
          obtain ⟨v, hv⟩ : ∃ v, (updV vs.toList off vd.cells.toList)[j]? = some v :=
            ⟨_, List.getElem?_eq_getElem (by have := (List.getElem?_eq_some_iff.1 hd').1; have := hup.1; omega)⟩
          exact ⟨v, by simpa using hv, hup.2 j d' v hd' hv⟩
    · exact hK.elim
  · exact hK.elim
end
end Go.Pw
