/- A part of the proof: functions of the program, walked, or what operations come to. -/
import Derived.Test.YtpedcchnhjffpaaGreatPvSound3
import Derived.Deep.AppendSrc
import Derived.Laws.Runes
import Derived.Lib.UnsafeStr
namespace Go.Pv
open Go.RowKit Go.Lib
section
variable {P : Program} {base : Prot} {w0 : World} {Γ : Gh} {H : Heap} {w : World}

theorem flat_replicate (n : Nat) (z : D) : flat (List.replicate n z) = (List.replicate n (cellsD z)).flatten := by
  simp [flat, List.flatMap_def]
theorem get_replicate_flatten {α : Type} (c : List α) : ∀ (n i : Nat), i < n * c.length → ((List.replicate n c).flatten)[i]? = c[i % c.length]?
  | 0, i, h => by simp at h
  | n + 1, i, h => by
    rw [List.replicate_succ, List.flatten_cons, List.getElem?_append]
    split
    · rename_i hlt; rw [Nat.mod_eq_of_lt hlt]
    · rename_i hlt
      have h' : i < n * c.length + c.length := by rwa [Nat.add_mul, Nat.one_mul] at h
      rw [get_replicate_flatten c n (i - c.length) (by omega)]
      congr 1
      exact (Nat.mod_eq_sub_mod (by omega)).symm

theorem makeSlice_gives (h : Rel P base w0 Γ H w) {t : TypeId} {n c : D} {vn vc : Value} {d : D} {H' : Heap} (hn : Rep P Γ n vn) (hc : Rep P Γ c vc) (hK : eMakeSlice P t n c H = some (d, H')) : Gives P base w0 Γ w (Instr.makeSlice t vn vc) d H' := by
  unfold eMakeSlice at hK
  split at hK
  · rename_i e k1 n k2 c hu
    obtain rfl := rep_int hn
    obtain rfl := rep_int hc
    split at hK
    · rename_i inf z hi hz
      split at hK
      case isFalse => cases hK
      rename_i hcc
      obtain ⟨hpos, h0, hnc, hb, h63⟩ := hcc
      simp only [Option.some.injEq, Prod.mk.injEq] at hK
      obtain ⟨rfl, rfl⟩ := hK
      obtain ⟨i', v, hi', hv, hs, hsz, h1, rfl, hcz⟩ := zeroElem_spec hz
      rw [hi] at hi'; cases hi'
      have hrun := run_make w t e inf v hu hi hv k1 k2 n c h0 hnc hb h63
      have hcl : (cellsD (ofZero v)).length = inf.size := by rw [hcz]; simp [hs]
      have hszs : ∀ m : Nat, ∀ d ∈ List.replicate m (ofZero v), (cellsD d).length = szOf P e := fun m d hd => by
        rw [(List.mem_replicate.1 hd).2, hcl, hsz]
      have hge : ∀ (m i : Nat) d, (flat (List.replicate m (ofZero v)))[i]? = some d → m ≤ c.toNat → ∃ u, (madeCells v.cells (c.toNat * inf.size)).toList[i]? = some u ∧ Rep P Γ d u ∧ u.oneCell' = true := by
        intro m i d hd hm
        have hlt : i < m * inf.size := by
          have := (List.getElem?_eq_some_iff.1 hd).1
          rw [flat_length (hszs m), List.length_replicate, hsz] at this; exact this
        have hlt2 : i < c.toNat * inf.size := Nat.lt_of_lt_of_le hlt (Nat.mul_le_mul_right _ hm)
        rw [flat_replicate, get_replicate_flatten _ _ _ (by rw [hcl]; exact hlt), hcl, hcz, List.getElem?_map] at hd
        have hmod : i % inf.size < v.cells.size := by rw [hs]; exact Nat.mod_lt _ hpos
        have hvi : v.cells.toList[i % inf.size]? = some (v.cells[i % inf.size]) := by simp [List.getElem?_eq_getElem, hmod]
        rw [hvi] at hd
        simp at hd
        refine ⟨v.cells[i % inf.size], ?_, by rw [← hd]; exact .ofVal P Γ _, h1 _ (List.mem_of_getElem? hvi)⟩
        have hsz' : (madeCells v.cells (c.toNat * inf.size)).toList[i]? = some (v.cells[i % v.cells.size]!) := by
          simp [madeCells, hlt2]
        rw [hsz', hs]
        simp [hmod]
      have hml : (madeCells v.cells (c.toNat * inf.size)).toList.length = c.toNat * inf.size := by simp [size_madeCells]
      have hpre : ∀ m : Nat, m ≤ c.toNat → RepPre P Γ (flat (List.replicate m (ofZero v))) (madeCells v.cells (c.toNat * inf.size)).toList := fun m hm => by
        refine ⟨?_, fun i d u hd hu => ?_⟩
        · rw [flat_length (hszs m), List.length_replicate, hsz, hml]; exact Nat.mul_le_mul_right _ hm
        · obtain ⟨u', hu', hr, ho⟩ := hge m i d hd hm
          rw [hu] at hu'; cases hu'
          exact ⟨hr, ho⟩
      have hmx : c.toNat ≤ maxLen := by simp only [maxLen]; omega
      obtain ⟨Γ', hle, hrep, hR⟩ := owned h e n.toNat c.toNat (madeCells v.cells (c.toNat * inf.size)).toList (List.replicate n.toNat (ofZero v)) (by simp) (by omega) hmx (hszs _) (by rw [hml, hsz]) (hpre _ (by omega))
      exact ⟨_, _, Γ', hrun, hle, by simpa using hR, hrep⟩
    · cases hK
  · cases hK

/-! ### Conversions -/
theorem bytes_str (l : List D) (h : ∀ d ∈ l, isByteD d = true) (vs : List Value) (hr : RepAll P Γ l vs) : ∃ xs : List Int, vs = xs.map (Value.int .u8) ∧ (strOfNums xs) = ⟨(l.map toByteD).toArray⟩ := by
  induction l generalizing vs with
  | nil =>
    cases vs with
    | nil => exact ⟨[], rfl, rfl⟩
    | cons => simp [RepAll] at hr
  | cons d l ih =>
    cases vs with
    | nil => simp [RepAll] at hr
    | cons v vs =>
      obtain ⟨xs, rfl, hx⟩ := ih (fun d hd => h d (by simp [hd])) vs ⟨by simpa using hr.1, fun i d v hd hv => hr.2 (i + 1) d v (by simpa using hd) (by simpa using hv)⟩
      have hb := h d (by simp)
      have hv := hr.2 0 d v rfl rfl
      unfold isByteD at hb
      split at hb
      · rename_i n
        obtain rfl := rep_int hv
        refine ⟨n :: xs, rfl, ?_⟩
        simp only [strOfNums, List.map_cons, toByteD] at hx ⊢
        have := congrArg (fun b : ByteArray => b.data.toList) hx
        simp at this
        simp [this]
      · cases hb
theorem bytes_run (w : World) (src dst e : TypeId) (hs : P.underlying src = some (.slice e)) (he : P.underlying e = some (.int .u8)) (hd : P.underlying dst = some .string) (ad : Addr) (xs : List Int) (cap : Nat)
    (hc : ∀ i u, (xs.map (Value.int .u8))[i]? = some u → w.cell? (ad.add i) = some u) : (convert src dst (.slice (some ad) xs.length cap)).run P w = .ok (.string (strOfNums xs)) w := by
  have hl : (loadCells ad xs.length).run P w = .ok (xs.map (Value.int .u8)).toArray w := by
    have := run_loadCells_list (P := P) w ad (xs.map (Value.int .u8)) hc
    simpa using this
  rw [run_convert_bytes_string w src dst e _ xs.length cap hs he hd, run_bytesToString w _ xs.length cap xs hl, foldl_push_bytes]
  simp [strOfNums, ByteArray.empty, ByteArray.emptyWithCapacity]
  rfl

theorem flat_bytes : ∀ (l : List D), (∀ d ∈ l, isByteD d = true) → flat l = l
  | [], _ => rfl
  | d :: l, hb => by
    rw [flat_cons, flat_bytes l (fun x hx => hb x (by simp [hx]))]
    have := hb d (by simp)
    unfold isByteD at this
    split at this
    · rfl
    · cases this

theorem toStr_run {src dst e : TypeId} (hs : P.underlying src = some (.slice e)) (he : P.underlying e = some (.int .u8)) (hd : P.underlying dst = some .string) {l : List D} {d : D} (hK : eToStr l = some d) {ad : Addr} {vs : Nat → Value}
    (hc : ∀ (j : Nat) d, l[j]? = some d → w.cell? (ad.add j) = some (vs j)) (hr : ∀ (j : Nat) d, l[j]? = some d → Rep P Γ d (vs j)) (cap : Nat) : Still P Γ w (convert src dst (.slice (some ad) l.length cap)) d := by
  unfold eToStr at hK
  split at hK
  · rename_i hb
    cases hK
    have hall : RepAll P Γ l ((List.range l.length).map vs) := ⟨by simp, fun i d v hd hv => by
      have hi : i < l.length := (List.getElem?_eq_some_iff.1 hd).1
      simp [List.getElem?_range hi] at hv
      subst hv
      exact hr i d hd⟩
    obtain ⟨xs, hxs, hstr⟩ := bytes_str l (fun d hd => List.all_eq_true.1 hb d hd) _ hall
    have hlen : xs.length = l.length := by have := congrArg List.length hxs; simpa using this.symm
    refine ⟨.string (strOfNums xs), ?_, by rw [hstr]; exact .val _⟩
    rw [← hlen]
    refine bytes_run w src dst e hs he hd ad xs cap (fun i u hu => ?_)
    rw [← hxs] at hu
    have hi : i < l.length := by have := (List.getElem?_eq_some_iff.1 hu).1; simpa using this
    simp [List.getElem?_range hi] at hu
    subst hu
    exact hc i _ (List.getElem?_eq_getElem hi)
  · cases hK
/-- The elements of a row that is read, as a source. -/
theorem elems_src (h : Rel P base w0 Γ H w) {e : TypeId} {x : D} {v : Value} {l : List D} (hx : Rep P Γ x v) (hK : elems H e x = some l) :
    (∀ d ∈ l, (cellsD d).length = szOf P e) ∧ ∃ (a : Option Addr) (cap : Nat) (vs : Nat → Value), v = .slice a l.length cap ∧ (l = [] ∨ ∃ ad, a = some ad ∧ (∀ (j : Nat) d, (flat l)[j]? = some d → w.cell? (ad.add j) = some (vs j) ∧ (vs j).oneCell' = true ∧ Rep P Γ d (vs j))) := by
  unfold elems at hK
  split at hK
  · rename_i g e' l'
    split at hK
    · rename_i he
      cases hK
      cases hx with
      | nil => exact ⟨by simp, none, 0, fun _ => undef, rfl, .inl rfl⟩
      | slice _ _ _ a ad cap vs hg h2 h3 hc hm ha hs hk hr =>
        refine ⟨fun d hd => ?_, a, cap, vs, rfl, ?_⟩
        · rcases he with rfl | rfl
          · exact hs d hd
          · cases hd
        · rcases ha with h0 | h0
          · exact .inl h0
          · exact .inr ⟨ad, h0, fun j d hj => ⟨(h.know _ _ (hk j d hj)).1, (h.know _ _ (hk j d hj)).2, hr j d hj⟩⟩
    · cases hK
  · rename_i i e' off len
    split at hK
    · rename_i e2 l' hi
      split at hK
      · rename_i hc
        obtain ⟨rfl, rfl, hle⟩ := hc
        cases hK
        cases hx with
        | row _ _ _ _ y hy hye hyc hym =>
          have hs := h.rowSizes hi
          have hL : ((l'.drop off).take len).length = len := by simp; omega
          obtain ⟨vs, hc, hr, ho⟩ := h.rowRead hi hy
          have hst : ∀ d ∈ l'.drop off, (cellsD d).length = szOf P e := fun d hd => hs d (List.mem_of_mem_drop hd)
          refine ⟨fun d hd => hs d (List.mem_of_mem_drop (List.mem_of_mem_take hd)), _, _, fun j => vs (off * szOf P e + j), by rw [hL], .inr ⟨_, rfl, fun j d hj => ?_⟩⟩
          have hj' : (flat l')[off * szOf P e + j]? = some d := by
            rw [flat_take hst, flat_drop hs, List.getElem?_take] at hj
            split at hj
            · rwa [List.getElem?_drop] at hj
            · cases hj
          refine ⟨?_, ho _ _ hj', hr _ _ hj'⟩
          have := hc _ _ hj'
          rw [Addr.add_lit] at this ⊢
          rwa [Nat.add_assoc]
      · cases hK
    · cases hK
  · cases hK

/-- An object that has turned, but not as far as it is told of. -/
theorem Rel.sameObj (h : Rel P base w0 Γ H w) {i : Nat} {o : PObj} {x : Gi} (hi : H.get i = some o) (hx : Γ.g i = some x) {w' : World} (hb : Kept base w0 w') (hs : w.heap.size ≤ w'.heap.size)
    (hold : ∀ k, k < w.heap.size → k ≠ x.b → w'.heap[k]? = w.heap[k]?) (ho : Holds P Γ w'.heap[x.b]? x o) : Rel P base w0 Γ H w' :=
  (h.setObj hi hx hb hs hold ho).sub (fun j p hj => by
    by_cases e : j = i
    · subst e
      rw [hi] at hj
      cases hj
      exact Heap.put_same _ _ _
    · rw [Heap.put_ne _ _ e]; exact hj) (Nat.le_refl _) (fun _ _ x => x)
theorem cellsOf_sz (t : TypeId) : P.cellsOf t = szOf P t := by
  unfold Program.cellsOf szOf
  cases P.info? t <;> rfl
theorem info_of_sz {t : TypeId} (h : 0 < szOf P t) : ∃ j, P.info? t = some j := by
  unfold szOf at h
  cases hq : P.info? t with
  | none => rw [hq] at h; exact absurd h (by simp)
  | some j => exact ⟨j, rfl⟩
theorem liesAt_self {e : TypeId} {count off n : Nat} (hs : 0 < P.cellsOf e) (hr : off % P.cellsOf e = 0) (hn : off / P.cellsOf e + n ≤ count) : liesAt P P.depth e count off e n = true := by
  have hd : P.depth = (2 * (P.types.size + Made.depth) + 1) + 1 := rfl
  rw [hd]
  simp only [liesAt, Bool.or_eq_true]
  left
  rw [hd]
  have h0 : ¬ P.cellsOf e = 0 := by omega
  simp [rowAt, h0, hr, hn, sameLayout]
theorem convert_gives (h : Rel P base w0 Γ H w) {src dst : TypeId} {x : D} {v : Value} {d : D} {H' : Heap} (hx : Rep P Γ x v) (hK : eConvert P src dst x H = some (d, H')) : Gives P base w0 Γ w (convert src dst v) d H' := by
  unfold eConvert at hK
  split at hK
  · rename_i ds k k' n hs hd
    obtain rfl := rep_int hx
    cases hK
    refine Still.gives h ⟨.int k (k.wrap n), ?_, .val _⟩
    simp only [convert, Sem.run_bind, run_underlying hs, run_underlying hd, Result.andThen_ok]
    cases ds <;> rfl
  · rename_i ds s hs hd
    obtain rfl := rep_val hx
    cases hK
    refine Still.gives h ⟨.string s, ?_, .val _⟩
    simp only [convert, Sem.run_bind, run_underlying hs, run_underlying hd, Result.andThen_ok]
    cases ds <;> rfl
  · rename_i ds k n hs hd
    obtain rfl := rep_int hx
    cases hK
    refine Still.gives h ⟨.string (Utf8.encode n), ?_, .val _⟩
    simp only [convert, Sem.run_bind, run_underlying hs, run_underlying hd, Result.andThen_ok]
    cases ds <;> rfl
  · rename_i e i e' off len hs hd
    split at hK
    · rename_i cs he hi
      split at hK
      · rename_i hlen
        split at hK
        · rename_i d' hd'
          cases hK
          refine Still.gives h ?_
          cases hx with
          | arr _ _ _ _ y cap hy hc hm =>
            obtain ⟨vs, hv1, hv2⟩ := h.boxRead hi hy
            have hL : ((cs.drop off).take len).length = len := by simp; omega
            have hat : ∀ (j : Nat) d, ((cs.drop off).take len)[j]? = some d → cs[off + j]? = some d := fun j d hd => by
              rw [List.getElem?_take, List.getElem?_drop] at hd
              split at hd
              · exact hd
              · cases hd
            have := toStr_run (w := w) (Γ := Γ) hs he hd hd' (ad := ⟨y.b, off, none⟩) (vs := fun j => vs (off + j)) (fun j d hj => by
              have := hv1 _ _ (hat j d hj)
              rw [Addr.add_lit] at this ⊢
              simpa using this) (fun j d hj => hv2 _ _ (hat j d hj)) cap
            rwa [hL] at this
        · cases hK
      · cases hK
    · cases hK
  · have hs := ‹P.underlying src = some (TypeDesc.slice _)›
    have hd := ‹P.underlying dst = some TypeDesc.string›
    split at hK
    · rename_i l he hl
      split at hK
      · rename_i hsz
        split at hK
        · rename_i d' hd'
          cases hK
          refine Still.gives h ?_
          obtain ⟨hszs, a, cap, vs, rfl, hrd⟩ := elems_src h hx hl
          have hb : ∀ d ∈ l, isByteD d = true := by
            unfold eToStr at hd'
            split at hd'
            · rename_i hb; exact fun d hd => List.all_eq_true.1 hb d hd
            · cases hd'
          have hfl := flat_bytes l hb
          rcases hrd with rfl | ⟨ad, rfl, hrd⟩
          · simp [eToStr] at hd'
            subst hd'
            refine ⟨.string ByteArray.empty, ?_, .val _⟩
            cases a with
            | none => exact run_convert_bytes_nil w src _ hs he 0 cap dst hd
            | some b => exact bytes_run w src dst _ hs he hd b [] cap (by simp)
          · rw [hfl] at hrd
            exact toStr_run (w := w) (Γ := Γ) hs he hd hd' (fun j d hj => (hrd j d hj).1) (fun j d hj => (hrd j d hj).2.2) cap
        · cases hK
      · cases hK
    · cases hK
  · rename_i ds e s hs hd
    obtain rfl := rep_val hx
    split at hK
    · rename_i he
      split at hK
      · rename_i hc
        obtain ⟨hsz, hmx⟩ := hc
        simp only [Option.some.injEq, Prod.mk.injEq] at hK
        obtain ⟨rfl, rfl⟩ := hK
        have hrun := run_convert_string_bytes (P := P) w src dst e s hs hd he
        have hbel : Kept base w0 (bytesWorld w e s) := h.below.trans ⟨rfl, rfl, rfl, by rw [bytesWorld_size]; omega, fun k hk => bytesWorld_at_old w e s k (h.size k hk)⟩
        have hcap : s.size ≤ grownCap w s.size 0 e := grownCap_ge w _ _ _
        have hcm : grownCap w s.size 0 e ≤ maxLen := grownCap_le_maxLen w _ _ _ hmx
        have hbs : (bytesCells w e s).size = grownCap w s.size 0 e := by
          simp only [bytesCells, Array.size_append, Array.size_map, Array.size_replicate]
          have : s.data.size = s.size := rfl
          omega
        have hcell : ∀ (j : Nat) d, (s.data.toList.map byD)[j]? = some d → ∃ v, (bytesCells w e s)[j]? = some v ∧ Rep P Γ d v ∧ v.oneCell' = true := by
          intro j d hj
          simp only [List.getElem?_map] at hj
          cases hb : s.data.toList[j]? with
          | none => simp [hb] at hj
          | some b =>
            simp [hb] at hj
            subst hj
            have hb' : s.data[j]? = some b := by simpa using hb
            have hlt : j < s.data.size := (Array.getElem?_eq_some_iff.1 hb').1
            refine ⟨.int .u8 b.toNat, ?_, .val _, rfl⟩
            have hlt' : ¬ s.size ≤ j := by have : s.data.size = s.size := rfl; omega
            simp [bytesCells, Array.getElem?_append, hlt, hb', hlt']
        have hW := h.world hbel (by rw [bytesWorld_size]; omega) (fun b hb => bytesWorld_at_old w e s b hb)
        have hflat : flat (s.data.toList.map byD) = s.data.toList.map byD := by
          generalize s.data.toList = l
          induction l with
          | nil => rfl
          | cons a l ih => rw [List.map_cons, flat_cons, ih]; rfl
        have hlen : (s.data.toList.map byD).length = s.size := by simp
        have hsl : s.data.toList.length = s.size := by simp
        have hR := hW.add ⟨w.heap.size, 0, grownCap w s.size 0 e, e⟩ (.row e (s.data.toList.map byD)) h.newIn h.newFree (by
          rw [bytesWorld_at_new]
          refine ⟨rfl, hcm, by rw [hlen]; exact hcap, fun d hd => ?_, bytesCells w e s, e, _, rfl, by rw [hbs, hsz]; simp, ⟨rfl, Nat.zero_mod _, .inr (Nat.le_refl _)⟩, fun j d hj => ?_⟩
          · simp at hd; obtain ⟨b, _, rfl⟩ := hd; rw [hsz]; rfl
          · rw [hflat] at hj
            simpa using hcell j d hj)
        refine ⟨_, _, _, hrun, h.addLe _, hR, ?_⟩
        rw [hsl]
        have := Rep.row (P := P) (Γ := Γ.add H.nx ⟨w.heap.size, 0, grownCap w s.size 0 e, e⟩) H.nx e 0 s.size ⟨w.heap.size, 0, grownCap w s.size 0 e, e⟩ (Γ.add_at _ _) rfl (by simpa using hcap) hcm
        simpa using this
      · cases hK
    · cases hK
  · rename_i e0 e i e' off len hs hd
    split at hK
    · rename_i hsd
      subst hsd
      rw [hs] at hd
      cases hd
      split at hK
      · rename_i e2 l he hi
        simp only [Option.some.injEq, Prod.mk.injEq] at hK
        obtain ⟨rfl, rfl⟩ := hK
        cases hx with
        | row _ _ _ _ y hy hye hc hm =>
          have hob := h.objAt hi hy
          obtain ⟨k0, k1, r1, r2, r3, r4, vs, T, fr, x3, x4, ⟨x51, x52, x5⟩, x6⟩ := hob
          have hsh : w.shape? y.b = some (T, vs.size) := by
            unfold World.shape?
            rw [x3]
          have hat : (w.freeze ⟨y.b, vs.size, none⟩ 1).heap[y.b]? = some (.cells vs T (if fr.1 == fr.2 then (vs.size, vs.size + 1) else (min fr.1 vs.size, max fr.2 (vs.size + 1)))) := by
            unfold World.freeze
            rw [if_neg (by decide)]
            simp only [Array.getElem?_modify, if_true, x3, Option.map_some]
          have hne : ∀ k, k ≠ y.b → (w.freeze ⟨y.b, vs.size, none⟩ 1).heap[k]? = w.heap[k]? := fun k hk => by
            unfold World.freeze
            rw [if_neg (by decide)]
            simp only [Array.getElem?_modify]
            rw [if_neg (fun e => hk e.symm)]
          refine ⟨_, w.freeze ⟨y.b, vs.size, none⟩ 1, Γ, ?_, .refl Γ, h.sameObj hi hy (h.below.freeze (by exact k0) 1) (by unfold World.freeze; split <;> simp) (fun k _ hk => hne k hk) ?_, .row i e' off len y hy hye hc hm⟩
          · simp [convert, run_underlying hs, run_underlying he, markStringish, hsh]
          · rw [hat]
            refine ⟨r1, r2, r3, r4, vs, T, _, rfl, x4, ⟨x51, x52, .inr ?_⟩, x6⟩
            split
            · exact Nat.le_refl _
            · rename_i hf
              rcases x5 with rfl | x5
              · simp at hf
              · show vs.size ≤ min fr.1 vs.size
                omega
      · cases hK
    · cases hK
  · rename_i t i e k c hs hd
    split at hK
    · rename_i e' l hi
      split at hK
      · rename_i hc
        obtain ⟨rfl, rfl, rfl, hl, hsz, ht⟩ := hc
        cases hK
        cases hx with
        | rptr _ _ _ _ y hy hye =>
          obtain ⟨k0, k1, r1, r2, r3, r4, vs, T, fr, x3, x4, ⟨x51, x52, x5⟩, x6⟩ := h.objAt hi hy
          obtain ⟨j, hj⟩ : ∃ j, P.info? t = some j := by
            unfold szOf at ht
            cases hq : P.info? t with
            | none => rw [hq] at ht; exact absurd rfl ht
            | some j => exact ⟨j, rfl⟩
          have hjs : j.size ≠ 0 := by unfold szOf at ht; rw [hj] at ht; exact ht
          have hsh : w.shape? y.b = some (T, vs.size) := by unfold World.shape?; rw [x3]
          have hcp : szOf P e ≤ y.cap * szOf P e := Nat.le_mul_of_pos_left _ (by omega)
          exact ⟨_, w, Γ, Lib.run_to_unsafe (cells := vs.size) w _ hs hd hj hjs hsh (by show y.o + 0 * szOf P e + 0 < vs.size; omega), .refl Γ, h, .rptr i e 0 0 y hy hye⟩
      · cases hK
    · cases hK
  · rename_i u i e k c hs hd
    split at hK
    · rename_i e' l hi
      split at hK
      · rename_i hc
        obtain ⟨rfl, rfl, rfl, hl, hsz, rfl⟩ := hc
        cases hK
        cases hx with
        | rptr _ _ _ _ y hy hye =>
          obtain ⟨k0, k1, r1, r2, r3, r4, vs, T, fr, x3, x4, ⟨x51, x52, x5⟩, x6⟩ := h.objAt hi hy
          subst x51
          obtain ⟨j, hj⟩ := info_of_sz hsz
          have hsh : w.shape? y.b = some (T, vs.size) := by unfold World.shape?; rw [x3]
          have hcp : szOf P T ≤ y.cap * szOf P T := Nat.le_mul_of_pos_left _ (by omega)
          have hlies := liesAt_self (P := P) (e := T) (count := vs.size / P.cellsOf T) (off := y.o + 0 * szOf P T + 0) (n := 1) (by rw [cellsOf_sz]; exact hsz) (by rw [cellsOf_sz]; simpa using x52) (by
            rw [cellsOf_sz, x4, Nat.add_mul_div_right _ _ hsz]; simp only [Nat.zero_mul, Nat.add_zero]; omega)
          exact ⟨_, w, Γ, Lib.run_from_unsafe (cells := vs.size) w _ hs hd hj hsh hlies, .refl Γ, h, .rptr i T 0 0 y hy hye⟩
      · cases hK
    · cases hK
  · cases hK

/-! ### append -/
theorem news_src (h : Rel P base w0 Γ H w) {e u : TypeId} {x : D} {v : Value} {m : List D} (hx : Rep P Γ x v) (hK : news P H e u x = some m) :
    ∃ vals, Src P (szOf P e) u v m.length vals w ∧ RepAll P Γ (flat m) vals ∧ ∀ d ∈ m, (cellsD d).length = szOf P e := by
  unfold news at hK
  split at hK
  · rename_i hu
    split at hK
    · rename_i s he
      split at hK
      · rename_i hsz
        cases hK
        obtain rfl := rep_val hx
        have hflat : flat (s.data.toList.map byD) = s.data.toList.map byD := by
          generalize s.data.toList = l
          induction l with
          | nil => rfl
          | cons a l ih => rw [List.map_cons, flat_cons, ih]; rfl
        refine ⟨byteCells s, ?_, ⟨by rw [hflat]; simp [byteCells], fun i d v hd hv => ?_⟩, fun d hd => ?_⟩
        · have := Src.ofString (P := P) w hu s
          rw [hsz]
          simpa using this
        · rw [hflat] at hd
          simp only [byteCells, List.getElem?_map] at hd hv
          cases hb : s.data.toList[i]? with
          | none => rw [hb] at hd; cases hd
          | some b =>
            rw [hb] at hd hv
            simp at hd hv
            subst hd; subst hv
            exact .val _
        · simp at hd; obtain ⟨b, _, rfl⟩ := hd; rw [hsz]; rfl
      · cases hK
    · cases hK
  · rename_i e' hu
    split at hK
    · rename_i i e2 off len
      split at hK
      · rename_i cs hi
        split at hK
        · rename_i hc
          obtain ⟨rfl, hsz, hle, hone⟩ := hc
          cases hK
          cases hx with
          | arr _ _ _ _ y cap hy hyc hm =>
            obtain ⟨vs, hv1, hv2⟩ := h.boxRead hi hy
            have hL : ((cs.drop off).take len).length = len := by simp; omega
            have hat : ∀ (j : Nat) d, ((cs.drop off).take len)[j]? = some d → cs[off + j]? = some d := fun j d hd => by
              rw [List.getElem?_take, List.getElem?_drop] at hd
              split at hd
              · exact hd
              · cases hd
            have h1 : ∀ d ∈ (cs.drop off).take len, cellsD d = [d] := fun d hd => by
              have := List.all_eq_true.1 hone d hd
              cases d <;> first | rfl | (simp [oneD] at this)
            have hflat : ∀ l : List D, (∀ d ∈ l, cellsD d = [d]) → flat l = l := by
              intro l
              induction l with
              | nil => intro _; rfl
              | cons a l ih => intro hh; rw [flat_cons, ih (fun d hd => hh d (by simp [hd])), hh a (by simp)]; rfl
            have hall : RepAll P Γ (flat ((cs.drop off).take len)) ((List.range len).map fun j => vs (off + j)) := by
              rw [hflat _ h1]
              refine ⟨by simp; omega, fun j d v hd hv => ?_⟩
              have hj : j < len := by have := (List.getElem?_eq_some_iff.1 hd).1; omega
              simp [List.getElem?_range hj] at hv
              subst hv
              exact hv2 _ d (hat j d hd)
            refine ⟨_, ?_, hall, fun d hd => by rw [h1 d hd, hsz]; rfl⟩
            rw [hL]
            refine Src.ofSlice (P := P) w hu _ len cap _ (by rw [hsz]; simp) (fun j u hu => ?_) (fun u hu => ?_)
            · have hj : j < len := by have := (List.getElem?_eq_some_iff.1 hu).1; simpa using this
              simp [List.getElem?_range hj] at hu
              subst hu
              have hd : ((cs.drop off).take len)[j]? = some (((cs.drop off).take len)[j]'(by omega)) := List.getElem?_eq_getElem _
              have := hv1 _ _ (hat j _ hd)
              rw [Addr.add_lit] at this ⊢
              simpa using this
            · obtain ⟨j, hj⟩ := List.mem_iff_getElem?.1 hu
              have hjl : j < len := by have := (List.getElem?_eq_some_iff.1 hj).1; simpa using this
              have hd : ((cs.drop off).take len)[j]? = some (((cs.drop off).take len)[j]'(by omega)) := List.getElem?_eq_getElem _
              exact oneD_rep (List.all_eq_true.1 hone _ (List.mem_of_getElem? hd)) (hall.2 j _ u (by rw [hflat _ h1]; exact hd) hj)
        · cases hK
      · cases hK
    · obtain ⟨hs, a, cap, vs, rfl, hrd⟩ := elems_src h hx hK
      rcases hrd with rfl | ⟨ad, rfl, hrd⟩
      · refine ⟨[], ?_, ⟨rfl, by simp [flat]⟩, by simp⟩
        cases a with
        | none => exact Src.ofNil (P := P) w hu cap
        | some b => exact Src.ofSlice (P := P) w hu b 0 cap [] (by simp) (by simp) (by simp)
      · have hfl := flat_length hs
        refine ⟨(List.range (flat m).length).map vs, ?_, ⟨by simp, fun j d v hd hv => ?_⟩, hs⟩
        · refine Src.ofSlice (P := P) w hu ad m.length cap _ (by simp [hfl]) (fun j u hu => ?_) (fun u hu => ?_)
          · have hj : j < (flat m).length := by have := (List.getElem?_eq_some_iff.1 hu).1; simpa using this
            simp [List.getElem?_range hj] at hu
            subst hu
            exact (hrd j _ (List.getElem?_eq_getElem hj)).1
          · obtain ⟨j, hj, rfl⟩ := List.mem_map.1 hu
            have hj' : j < (flat m).length := by simpa using hj
            exact (hrd j _ (List.getElem?_eq_getElem hj')).2.1
        · have hj : j < (flat m).length := (List.getElem?_eq_some_iff.1 hd).1
          simp [List.getElem?_range hj] at hv
          subst hv
          exact (hrd j d hd).2.2
  · cases hK

theorem RepAll.append {a b : List D} {x y : List Value} (h : RepAll P Γ a x) (k : RepAll P Γ b y) : RepAll P Γ (a ++ b) (x ++ y) := by
  refine ⟨by simp [h.1, k.1], fun i d v hd hv => ?_⟩
  rw [List.getElem?_append] at hd hv
  rw [h.1] at hd
  split at hd
  · rename_i hlt
    rw [if_pos hlt] at hv
    exact h.2 i d v hd hv
  · rename_i hlt
    rw [if_neg hlt] at hv
    exact k.2 _ d v hd hv

theorem append_gives (h : Rel P base w0 Γ H w) {t u ty : TypeId} {s x d : D} {vs vx : Value} {H' : Heap} (hs : Rep P Γ s vs) (hx : Rep P Γ x vx) (hK : eAppend P t u s x H = some (d, H')) :
    Gives P base w0 Γ w (Builtin.append_ #[t, u] ty #[vs, vx]) d H' := by
  unfold eAppend at hK
  split at hK
  case h_2 => cases hK
  rename_i e hu
  split at hK
  case h_2 => cases hK
  rename_i inf hi
  split at hK
  case h_2 => cases hK
  rename_i z m hz1 hm
  split at hK
  case isFalse => cases hK
  rename_i hcc
  obtain ⟨hpos, hbp, hz2, hsl⟩ := hcc
  have hsz : szOf P e = inf.size := by simp [szOf, hi]
  obtain ⟨vals, hsrc, hrm, hsm⟩ := news_src h hx hm
  rw [hsz] at hsrc
  split at hK
  · -- nothing is appended
    rename_i hme
    simp only [Option.some.injEq, Prod.mk.injEq] at hK
    obtain ⟨rfl, rfl⟩ := hK
    have hm0 : m = [] := by simpa using hme
    subst hm0
    obtain ⟨a, n, cap, rfl, hnc⟩ : ∃ a n cap, vs = .slice a n cap ∧ n ≤ cap := by
      cases hs with
      | nil => exact ⟨_, _, _, rfl, by omega⟩
      | slice _ _ _ a ad cap vs hg h2 h3 hc => exact ⟨_, _, _, rfl, hc⟩
      | arr _ _ _ _ y cap hy hc => exact ⟨_, _, _, rfl, hc⟩
      | row _ _ _ _ y hy hye hyc => exact ⟨_, _, _, rfl, by omega⟩
      | _ => simp [isSliceD] at hsl
    have hv0 : vals = [] := by have := hsrc.newsLen; simpa using this
    subst hv0
    refine Still.gives h ⟨.slice a n cap, ?_, hs⟩
    have h1 := hsrc.len
    have h2 := hsrc.cells
    simp only [List.length_nil] at h1 h2
    rcases hsrc.kind with ⟨e', hk⟩ | hk <;> cases a <;> simp [Builtin.append_, run_underlying hu, run_underlying hk, sizeOf, typeInfo, hi, h1, hnc, h2, storeCells]
  · rename_i hme
    have hm0 : 0 < m.length := by
      rcases Nat.eq_zero_or_pos m.length with q | q
      · exact absurd (by simpa using q) hme
      · exact q
    split at hK
    case h_2 => cases hK
    rename_i l H1 hon
    split at hK
    case isFalse => cases hK
    rename_i hb
    simp only [Option.some.injEq, Prod.mk.injEq] at hK
    obtain ⟨rfl, rfl⟩ := hK
    have hlen : l.length + m.length ≤ 140737488355328 := by
      have : (l.length + m.length) * 1 ≤ (l.length + m.length) * inf.bytes := Nat.mul_le_mul_left _ hbp
      omega
    -- a new row
    have grown : ∀ (base' : Option Addr) (cap : Nat) (olds : List Value), vs = .slice base' l.length cap → cap < l.length + m.length → Rel P base w0 Γ H1 w → H1.nx = H.nx → (Builtin.firstCells inf.size l.length (.slice base' l.length cap)).run P w.drew = .ok olds.toArray w.drew →
        RepAll P Γ (flat l) olds → (∀ v ∈ olds, v.oneCell' = true) → (∀ d ∈ l, (cellsD d).length = szOf P e) →
        Gives P base w0 Γ w (Builtin.append_ #[t, u] ty #[vs, vx]) (.row H.nx e 0 (l.length + m.length)) (H1.new (.row e (l ++ m))) := by
      intro base' cap olds hvs hcap hR1 hnx hold r1 o1 hsl1
      subst hvs
      have hrun := run_append_grow_src (P := P) w t u ty e inf z hu hi hz1 base' l.length cap olds hold vx m.length vals hsrc hcap (by omega) (growslice_fits (by omega) hb)
      have hszs : ∀ d ∈ l ++ m, (cellsD d).length = szOf P e := fun d hd => (List.mem_append.1 hd).elim (hsl1 d) (hsm d)
      have hfl := flat_length hszs
      have hrr := r1.append hrm
      rw [← flat_append] at hrr
      have hxl : (olds ++ vals).length = (l.length + m.length) * szOf P e := by rw [← hrr.1, hfl]; simp
      have hge := grownCap_ge w (l.length + m.length) cap e
      have hcm := grownCap_le_maxLen w (l.length + m.length) cap e (by simp only [maxLen]; omega)
      have hzl : (Builtin.zeroCells z.cells (grownCap w (l.length + m.length) cap e - (l.length + m.length))).size = (grownCap w (l.length + m.length) cap e - (l.length + m.length)) * szOf P e := by
        rw [size_zeroCells, hz2, hsz]
      generalize hZ : Builtin.zeroCells z.cells (grownCap w (l.length + m.length) cap e - (l.length + m.length)) = Z at hzl hrun
      have hZl : Z.toList.length = (grownCap w (l.length + m.length) cap e - (l.length + m.length)) * szOf P e := by simpa using hzl
      have harr : ((olds ++ vals) ++ Z.toList).toArray = (olds ++ vals).toArray ++ Z := by apply Array.ext'; simp
      obtain ⟨Γ', hle, hrep, hR⟩ := owned hR1.drew e (l.length + m.length) (grownCap w (l.length + m.length) cap e) ((olds ++ vals) ++ Z.toList) (l ++ m) (by simp) hge hcm hszs
        (by rw [List.length_append, hxl, hZl, ← Nat.add_mul]; congr 1; omega)
        ⟨by rw [List.length_append, hrr.1]; omega, fun i d v hd hv => by
          have hi : i < (olds ++ vals).length := by rw [← hrr.1]; exact (List.getElem?_eq_some_iff.1 hd).1
          rw [List.getElem?_append_left hi] at hv
          refine ⟨hrr.2 i d v hd hv, ?_⟩
          rcases List.mem_append.1 (List.mem_of_getElem? hv) with hh | hh
          · exact o1 v hh
          · exact hsrc.one v hh⟩
      rw [harr] at hR
      rw [hnx] at hrep
      exact ⟨_, _, Γ', hrun, hle, hR, hrep⟩
    unfold onto at hon
    split at hon
    · rename_i g e' l'
      split at hon
      · rename_i hc
        obtain ⟨hg, he⟩ := hc
        simp only [Option.some.injEq, Prod.mk.injEq] at hon
        obtain ⟨rfl, rfl⟩ := hon
        have hel : elems H e (.slice g e' l') = some l' := by simp [elems, he]
        obtain ⟨hsl1, a, cap, ws, hvs, hrd⟩ := elems_src h hs hel
        have hcap : cap = l'.length := by
          cases hs with
          | nil => cases hvs; rfl
          | slice _ _ _ a ad cap vs hg1 h2 hc => cases hvs; exact h2 (hg.resolve_left hg1)
        rcases hrd with rfl | ⟨ad, rfl, hrd⟩
        · refine grown a cap [] hvs (by rw [hcap]; simp; omega) h rfl ?_ ⟨rfl, by simp [flat]⟩ (by simp) (by simp)
          cases a with
          | none => exact run_firstCells_none _ _ _ _ _
          | some b => exact run_firstCells_some (P := P) w.drew inf.size 0 b 0 cap [] (by simp) (by simp)
        · have hfl := flat_length hsl1
          refine grown (some ad) cap ((List.range (flat l').length).map ws) hvs (by rw [hcap]; omega) h rfl ?_ ⟨by simp, fun j d v hd hv => ?_⟩ (fun v hv => ?_) hsl1
          · refine run_firstCells_some (P := P) w.drew inf.size l'.length ad l'.length cap _ (by simp [hfl, hsz]) (fun j u hu => ?_)
            have hj : j < (flat l').length := by have := (List.getElem?_eq_some_iff.1 hu).1; simpa using this
            simp [List.getElem?_range hj] at hu
            subst hu
            simpa using (hrd j _ (List.getElem?_eq_getElem hj)).1
          · have hj : j < (flat l').length := (List.getElem?_eq_some_iff.1 hd).1
            simp [List.getElem?_range hj] at hv
            subst hv
            exact (hrd j d hd).2.2
          · obtain ⟨j, hj, rfl⟩ := List.mem_map.1 hv
            have hj' : j < (flat l').length := by simpa using hj
            exact (hrd j _ (List.getElem?_eq_getElem hj')).2.1
      · cases hon
    · rename_i i e' off len
      split at hon
      · rename_i e2 l0 hi0
        split at hon
        · rename_i hc
          obtain ⟨rfl, rfl, hle0⟩ := hc
          simp only [Option.some.injEq, Prod.mk.injEq] at hon
          obtain ⟨rfl, rfl⟩ := hon
          have hel : elems H e (.row i e off len) = some ((l0.drop off).take len) := by simp [elems, hi0, hle0]
          obtain ⟨hsl1, a, cap, ws, hvs, hrd⟩ := elems_src h hs hel
          have hL : ((l0.drop off).take len).length = len := by simp; omega
          generalize hl : (l0.drop off).take len = l at *
          have hfl := flat_length hsl1
          have hall : RepAll P Γ (flat l) ((List.range (flat l).length).map ws) ∧ (∀ v ∈ (List.range (flat l).length).map ws, v.oneCell' = true) := by
            rcases hrd with rfl | ⟨ad, rfl, hrd⟩
            · exact ⟨⟨rfl, by simp [flat]⟩, by simp [flat]⟩
            · refine ⟨⟨by simp, fun j d v hd hv => ?_⟩, fun v hv => ?_⟩
              · have hj : j < (flat l).length := (List.getElem?_eq_some_iff.1 hd).1
                simp [List.getElem?_range hj] at hv
                subst hv
                exact (hrd j d hd).2.2
              · obtain ⟨j, hj, rfl⟩ := List.mem_map.1 hv
                have hj' : j < (flat l).length := by simpa using hj
                exact (hrd j _ (List.getElem?_eq_getElem hj')).2.1
          have hkill := h.kill i
          cases hs with
          | row _ _ _ _ y hy hye hyc hym =>
            rw [hL] at hvs
            cases hvs
            have hfree := h.killFree hi0 hy
            obtain ⟨y2, _, k1, k2, k3, k4, cur, T, fr, x3, x4, ⟨x51, x52, x5⟩, x6⟩ := h.objAt hi0 hy
            by_cases hroom : len + m.length ≤ y.cap - off
            · -- there is room
              have hb1 : off * szOf P e + (len + m.length) * szOf P e ≤ y.cap * szOf P e := by rw [← Nat.add_mul]; exact Nat.mul_le_mul_right _ (by omega)
              have hb2 : (len + m.length) * szOf P e = len * szOf P e + m.length * szOf P e := Nat.add_mul ..
              have hvl : vals.length = m.length * szOf P e := by rw [hsrc.newsLen, hsz]
              have hcell : ∀ j, j < cur.size → (w.cell? ⟨y.b, j, none⟩).isSome = true ∧ w.frozen? ⟨y.b, j, none⟩ = false := fun j hj => by
                refine ⟨by rw [cell_of_row w y.b j cur T fr x3]; simp [hj], ?_⟩
                simp only [World.frozen?, x3]
                rcases x5 with rfl | x5
                · simp
                · simp; omega
              have hrun := run_append_room_src (P := P) w t u ty e inf hu hi y.b (y.o + off * szOf P e) len (y.cap - off) vx m.length vals hsrc hroom
                (fun j hj => (hcell _ (by rw [← hsz]; omega)).1) (fun j hj => (hcell _ (by rw [← hsz]; omega)).2)
              have hcur : w.heap[y.b]? = some (.cells cur.toList.toArray T fr) := by simpa using x3
              have hW := hkill.turn (w' := w.setCells y.b (y.o + off * szOf P e + len * inf.size) vals) y.b hfree (below_setCells y2 _ _ _ h.below) (by rw [size_setCells]; exact Nat.le_refl _) (fun k _ hk => heap_setCells_other y.b k hk _ _ _)
              have hszs : ∀ d ∈ l ++ m, (cellsD d).length = szOf P e := fun d hd => (List.mem_append.1 hd).elim (hsl1 d) (hsm d)
              have hrr := hall.1.append hrm
              rw [← flat_append] at hrr
              have hsp := updV_splice vals cur.toList (y.o + off * szOf P e + len * inf.size) (by rw [hvl, ← hsz]; simp; omega)
              have hR := hW.add ⟨y.b, y.o + off * szOf P e, y.cap - off, e⟩ (.row e (l ++ m)) y2 hfree (by
                rw [heap_setCells y.b T fr vals _ w _ hcur]
                refine ⟨rfl, ?_, ?_, hszs, _, T, fr, rfl, ?_, ?_, fun j d hj => ?_⟩
                · show y.cap - off ≤ maxLen; omega
                · show (l ++ m).length ≤ y.cap - off; simp [hL]; omega
                · show _ = y.o + off * szOf P e + (y.cap - off) * szOf P e
                  rw [List.size_toArray, updV_length, Array.length_toList, x4, Nat.add_assoc, ← Nat.add_mul]; congr 2; omega
                · rcases x5 with x5 | x5
                  · exact ⟨x51, by show (y.o + off * szOf P e) % szOf P e = 0; rw [Nat.add_mul_mod_self_right]; exact x52, .inl x5⟩
                  · exact ⟨x51, by show (y.o + off * szOf P e) % szOf P e = 0; rw [Nat.add_mul_mod_self_right]; exact x52, .inr (by simpa [updV_length] using x5)⟩
                · have hj' : j < (l.length + m.length) * szOf P e := by have := (List.getElem?_eq_some_iff.1 hj).1; rw [flat_length hszs] at this; simpa using this
                  rw [hL, Nat.add_mul] at hj'
                  simp only [List.getElem?_toArray]
                  rw [hsp, ← hsz]
                  have hT : (cur.toList.take (y.o + off * szOf P e + len * szOf P e)).length = y.o + off * szOf P e + len * szOf P e := by rw [List.length_take, Array.length_toList]; omega
                  rw [flat_append] at hj
                  by_cases hlo : j < len * szOf P e
                  · rw [List.getElem?_append_left (by rw [hfl, hL]; exact hlo)] at hj
                    rw [List.append_assoc, List.getElem?_append_left (by rw [hT]; omega), List.getElem?_take, if_pos (by omega)]
                    have hj2 : (flat l0)[off * szOf P e + j]? = some d := by
                      have hst : ∀ d ∈ l0.drop off, (cellsD d).length = szOf P e := fun d hd => k4 d (List.mem_of_mem_drop hd)
                      rw [← hl, flat_take hst, flat_drop k4, List.getElem?_take, if_pos hlo, List.getElem?_drop] at hj
                      exact hj
                    obtain ⟨v, q1, q2, q3⟩ := x6 _ _ hj2
                    exact ⟨v, by rw [show y.o + off * szOf P e + j = y.o + (off * szOf P e + j) by omega]; simpa using q1, q2, q3⟩
                  · rw [List.getElem?_append_right (by rw [hfl, hL]; omega), hfl, hL] at hj
                    rw [List.append_assoc, List.getElem?_append_right (by rw [hT]; omega), hT, show y.o + off * szOf P e + j - (y.o + off * szOf P e + len * szOf P e) = j - len * szOf P e by omega,
                      List.getElem?_append_left (by rw [hvl]; omega)]
                    obtain ⟨v, hv⟩ : ∃ v, vals[j - len * szOf P e]? = some v := ⟨_, List.getElem?_eq_getElem (by rw [hvl]; omega)⟩
                    exact ⟨v, hv, hrm.2 _ d v hj hv, hsrc.one v (List.mem_of_getElem? hv)⟩)
              refine ⟨_, _, _, hrun, h.addLe _, hR, ?_⟩
              rw [hL]
              have := Rep.row (P := P) (Γ := Γ.add H.nx ⟨y.b, y.o + off * szOf P e, y.cap - off, e⟩) H.nx e 0 (len + m.length) ⟨y.b, y.o + off * szOf P e, y.cap - off, e⟩ (Γ.add_at _ _) rfl (by simpa using hroom) (by show y.cap - off ≤ maxLen; omega)
              simpa using this
            · refine grown (some ⟨y.b, y.o + off * szOf P e, none⟩) (y.cap - off) _ (by rw [hL]) (by omega) hkill rfl ?_ hall.1 hall.2 hsl1
              refine run_firstCells_some (P := P) w.drew inf.size l.length _ l.length _ _ (by simp [hfl, hsz]) (fun j u hu => ?_)
              have hj : j < (flat l).length := by have := (List.getElem?_eq_some_iff.1 hu).1; simpa using this
              simp [List.getElem?_range hj] at hu
              subst hu
              rcases hrd with rfl | ⟨ad, had, hrd⟩
              · simp [flat] at hj
              · cases had
                simpa using (hrd j _ (List.getElem?_eq_getElem hj)).1
        · cases hon
      · cases hon
    · cases hon
end
end Go.Pv
