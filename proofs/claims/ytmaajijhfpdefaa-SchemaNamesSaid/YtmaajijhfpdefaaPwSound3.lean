/- Each operation does so: the third part. -/
import Derived.Test.YtmaajijhfpdefaaPwSound2
namespace Go.Pw
open Go.RowKit Go.Lib
section
variable {P : Program} {base : Nat} {w0 : World} {Γ : Gh} {H : Heap} {w : World}

theorem flat_replicate (n : Nat) (z : D) : flat (List.replicate n z) = (List.replicate n (cellsD z)).flatten := by
  simp [flat, List.flatMap_def]
theorem get_replicate_flatten {α : Type} (c : List α) : ∀ (n i : Nat), i < n * c.length → ((List.replicate n c).flatten)[i]? = c[i % c.length]?
  | 0, i, h => by simp at h
  | n + 1, i, h => by
    rw [List.replicate_succ, List.flatten_cons, List.getElem?_append]
    split
    · rename_i hlt; rw [Nat.mod_eq_of_lt hlt]
    · rename_i hlt
      have h' : i < n * c.length + c.length := by rwa [Nat.add_mul, Nat.one_mul] at h
      rw [get_replicate_flatten c n (i - c.length) (by omega)]
      congr 1
      exact (Nat.mod_eq_sub_mod (by omega)).symm

theorem makeSlice_gives (h : Rel P base w0 Γ H w) {t : TypeId} {n c : D} {vn vc : Value} {K : D → Heap → Prop} (hn : Rep P Γ n vn) (hc : Rep P Γ c vc) (hK : pMakeSlice P t n c H K) : Gives P base w0 Γ w (Instr.makeSlice t vn vc) K := by
  unfold pMakeSlice at hK
  split at hK
  · rename_i e k1 n k2 c hu
    obtain rfl := rep_int hn
    obtain rfl := rep_int hc
    split at hK
    · rename_i inf z hi hz
      obtain ⟨hpos, h0, hnc, hb, h63, hK⟩ := hK
      obtain ⟨i', v, hi', hv, hs, hsz, h1, rfl, hcz⟩ := zeroElem_spec hz
      rw [hi] at hi'; cases hi'
      have hrun := run_make w t e inf v hu hi hv k1 k2 n c h0 hnc hb h63
      have hcl : (cellsD (ofZero v)).length = inf.size := by rw [hcz]; simp [hs]
      have hszs : ∀ m : Nat, ∀ d ∈ List.replicate m (ofZero v), (cellsD d).length = szOf P e := fun m d hd => by
        rw [(List.mem_replicate.1 hd).2, hcl, hsz]
      have hge : ∀ (m i : Nat) d, (flat (List.replicate m (ofZero v)))[i]? = some d → m ≤ c.toNat → ∃ u, (madeCells v.cells (c.toNat * inf.size)).toList[i]? = some u ∧ Rep P Γ d u ∧ u.oneCell' = true := by
        intro m i d hd hm
        have hlt : i < m * inf.size := by
          have := (List.getElem?_eq_some_iff.1 hd).1
          rw [flat_length (hszs m), List.length_replicate, hsz] at this; exact this
        have hlt2 : i < c.toNat * inf.size := Nat.lt_of_lt_of_le hlt (Nat.mul_le_mul_right _ hm)
        rw [flat_replicate, get_replicate_flatten _ _ _ (by rw [hcl]; exact hlt), hcl, hcz, List.getElem?_map] at hd
        have hmod : i % inf.size < v.cells.size := by rw [hs]; exact Nat.mod_lt _ hpos
        have hvi : v.cells.toList[i % inf.size]? = some (v.cells[i % inf.size]) := by simp [List.getElem?_eq_getElem, hmod]
        rw [hvi] at hd
        simp at hd
        refine ⟨v.cells[i % inf.size], ?_, by rw [← hd]; exact .ofVal P Γ _, h1 _ (List.mem_of_getElem? hvi)⟩
        have hsz' : (madeCells v.cells (c.toNat * inf.size)).toList[i]? = some (v.cells[i % v.cells.size]!) := by
          simp [madeCells, hlt2]
        rw [hsz', hs]
        simp [hmod]
      have hml : (madeCells v.cells (c.toNat * inf.size)).toList.length = c.toNat * inf.size := by simp [size_madeCells]
      have hpre : ∀ m : Nat, m ≤ c.toNat → RepPre P Γ (flat (List.replicate m (ofZero v))) (madeCells v.cells (c.toNat * inf.size)).toList := fun m hm => by
        refine ⟨?_, fun i d u hd hu => ?_⟩
        · rw [flat_length (hszs m), List.length_replicate, hsz, hml]; exact Nat.mul_le_mul_right _ hm
        · obtain ⟨u', hu', hr, ho⟩ := hge m i d hd hm
          rw [hu] at hu'; cases hu'
          exact ⟨hr, ho⟩
      have hmx : c.toNat ≤ maxLen := by simp only [maxLen]; omega
      rcases hK with hK | hK
      · obtain ⟨g, Γ', g2, hg, hle, hrep, hR⟩ := owned h e n.toNat c.toNat (madeCells v.cells (c.toNat * inf.size)).toList (List.replicate n.toNat (ofZero v)) (by simp) (by omega) hmx (hszs _) (by rw [hml, hsz]) (hpre _ (by omega))
        exact ⟨_, _, Γ', _, _, hrun, hle, by simpa using hR, hrep, hK g g2 hg⟩
      · obtain ⟨j, Γ', j2, hj, hle, hb', hR⟩ := h.newBox (madeCells v.cells (c.toNat * inf.size)) e (0, 0) (.inl rfl) (flat (List.replicate n.toNat (ofZero v)))
          (by have := (hpre n.toNat (by omega)).1; simpa using this) (fun i d hd => by obtain ⟨u, x1, x2, x3⟩ := hge n.toNat i d hd (by omega); exact ⟨u, by simpa using x1, x2, x3⟩) (below_alloc_ h _)
          (fun b hb => hpOld w _ b hb) (hpNew w _)
        exact ⟨_, _, Γ', _, _, hrun, hle, hR, .arr j e 0 n.toNat _ c.toNat hb' (by omega) hmx, hK j j2 hj⟩
    · exact hK.elim
  · exact hK.elim

/-! ### Conversions -/
theorem bytes_str (l : List D) (h : ∀ d ∈ l, isByteD d = true) (vs : List Value) (hr : RepAll P Γ l vs) : ∃ xs : List Int, vs = xs.map (Value.int .u8) ∧ (strOfNums xs) = ⟨(l.map toByteD).toArray⟩ := by
  induction l generalizing vs with
  | nil =>
    cases vs with
    | nil => exact ⟨[], rfl, rfl⟩
    | cons => simp [RepAll] at hr
  | cons d l ih =>
    cases vs with
    | nil => simp [RepAll] at hr
    | cons v vs =>
      obtain ⟨xs, rfl, hx⟩ := ih (fun d hd => h d (by simp [hd])) vs ⟨by simpa using hr.1, fun i d v hd hv => hr.2 (i + 1) d v (by simpa using hd) (by simpa using hv)⟩
      have hb := h d (by simp)
      have hv := hr.2 0 d v rfl rfl
      unfold isByteD at hb
      split at hb
      · rename_i n
        obtain rfl := rep_int hv
        refine ⟨n :: xs, rfl, ?_⟩
        simp only [strOfNums, List.map_cons, toByteD] at hx ⊢
        have := congrArg (fun b : ByteArray => b.data.toList) hx
        simp at this
        simp [this]
      · cases hb
theorem bytes_run (w : World) (src dst e : TypeId) (hs : P.underlying src = some (.slice e)) (he : P.underlying e = some (.int .u8)) (hd : P.underlying dst = some .string) (ad : Addr) (xs : List Int) (cap : Nat)
    (hc : ∀ i u, (xs.map (Value.int .u8))[i]? = some u → w.cell? (ad.add i) = some u) : (convert src dst (.slice (some ad) xs.length cap)).run P w = .ok (.string (strOfNums xs)) w := by
  have hl : (loadCells ad xs.length).run P w = .ok (xs.map (Value.int .u8)).toArray w := by
    have := run_loadCells_list (P := P) w ad (xs.map (Value.int .u8)) hc
    simpa using this
  rw [run_convert_bytes_string w src dst e _ xs.length cap hs he hd, run_bytesToString w _ xs.length cap xs hl, foldl_push_bytes]
  simp [strOfNums, ByteArray.empty, ByteArray.emptyWithCapacity]
  rfl

theorem flat_bytes : ∀ (l : List D), (∀ d ∈ l, isByteD d = true) → flat l = l
  | [], _ => rfl
  | d :: l, hb => by
    rw [flat_cons, flat_bytes l (fun x hx => hb x (by simp [hx]))]
    have := hb d (by simp)
    unfold isByteD at this
    split at this
    · rfl
    · cases this

theorem convert_gives (h : Rel P base w0 Γ H w) {src dst : TypeId} {x : D} {v : Value} {K : D → Heap → Prop} (hx : Rep P Γ x v) (hK : pConvert P src dst x H K) : Gives P base w0 Γ w (convert src dst v) K := by
  unfold pConvert at hK
  split at hK
  · rename_i ds k k' n hs hd
    obtain rfl := rep_int hx
    refine Still.gives h ⟨.int k (k.wrap n), _, ?_, .val _, hK⟩
    simp only [convert, Sem.run_bind, run_underlying hs, run_underlying hd, Result.andThen_ok]
    cases ds <;> rfl
  · rename_i ds s hs hd
    obtain rfl := rep_val hx
    refine Still.gives h ⟨.string s, _, ?_, .val _, hK⟩
    simp only [convert, Sem.run_bind, run_underlying hs, run_underlying hd, Result.andThen_ok]
    cases ds <;> rfl
  · rename_i e g e' l hs hd
    obtain ⟨he, hsz, hee, hb, hK⟩ := hK
    refine Still.gives h ?_
    cases hx with
    | nil =>
      exact ⟨.string ByteArray.empty, _, run_convert_bytes_nil w src e hs he 0 0 dst hd, .val _, hK⟩
    | slice _ _ _ a ad cap vs hg hc hm ha ht hsl hk hr =>
      have hflat : flat l = l := flat_bytes l hb
      rw [hflat] at hk hr
      rcases Nat.eq_zero_or_pos l.length with h0 | h0
      · have hl : l = [] := List.eq_nil_of_length_eq_zero h0
        subst hl
        refine ⟨.string ByteArray.empty, _, ?_, .val _, hK⟩
        cases a with
        | none => exact run_convert_bytes_nil w src e hs he 0 cap dst hd
        | some b =>
          exact bytes_run w src dst e hs he hd b [] cap (by simp)
      · have hne : l ≠ [] := by intro e; subst e; simp at h0
        obtain rfl := ha.resolve_left hne
        have hall : RepAll P Γ l ((List.range l.length).map vs) := ⟨by simp, fun i d v hd hv => by
          have hi : i < l.length := (List.getElem?_eq_some_iff.1 hd).1
          simp [List.getElem?_range hi] at hv
          subst hv
          exact hr i d hd⟩
        obtain ⟨xs, hxs, hstr⟩ := bytes_str l hb _ hall
        have hlen : xs.length = l.length := by have := congrArg List.length hxs; simpa using this.symm
        refine ⟨.string (strOfNums xs), _, ?_, .val _, by rw [hstr]; exact hK⟩
        rw [← hlen]
        refine bytes_run w src dst e hs he hd ad xs cap (fun i u hu => ?_)
        rw [← hxs] at hu
        have hi : i < l.length := by have := (List.getElem?_eq_some_iff.1 hu).1; simpa using this
        simp [List.getElem?_range hi] at hu
        subst hu
        exact (h.know _ _ (hk i _ (List.getElem?_eq_getElem hi))).1
  · rename_i e i e' off len hs hd
    obtain ⟨he, hK⟩ := hK
    split at hK
    · rename_i cs hi
      obtain ⟨hlen, hb, hK⟩ := hK
      refine Still.gives h ?_
      cases hx with
      | arr _ _ _ _ b cap hbx hc hm =>
        obtain ⟨vs, hv1, hv2⟩ := h.boxRead hi hbx
        have hL : ((cs.drop off).take len).length = len := by simp; omega
        have hat : ∀ (j : Nat) d, ((cs.drop off).take len)[j]? = some d → cs[off + j]? = some d := fun j d hd => by
          rw [List.getElem?_take, List.getElem?_drop] at hd
          split at hd
          · exact hd
          · cases hd
        have hall : RepAll P Γ ((cs.drop off).take len) ((List.range len).map fun j => vs (off + j)) := ⟨by simp; omega, fun j d v hd hv => by
          have hj : j < len := by have := (List.getElem?_eq_some_iff.1 hd).1; omega
          simp [List.getElem?_range hj] at hv
          subst hv
          exact hv2 _ d (hat j d hd)⟩
        obtain ⟨xs, hxs, hstr⟩ := bytes_str _ hb _ hall
        have hxl : xs.length = len := by have := congrArg List.length hxs; simpa using this.symm
        refine ⟨.string (strOfNums xs), _, ?_, .val _, by rw [hstr]; exact hK⟩
        rw [← hxl]
        refine bytes_run w src dst e hs he hd ⟨b, off, none⟩ xs cap (fun j u hu => ?_)
        rw [← hxs] at hu
        have hj : j < len := by have := (List.getElem?_eq_some_iff.1 hu).1; simpa using this
        simp [List.getElem?_range hj] at hu
        subst hu
        have hd : ((cs.drop off).take len)[j]? = some (((cs.drop off).take len)[j]'(by omega)) := List.getElem?_eq_getElem _
        have := hv1 _ _ (hat j _ hd)
        rw [Addr.add_lit] at this ⊢
        simpa using this
    · exact hK.elim
  · rename_i ds e s hs hd
    obtain rfl := rep_val hx
    obtain ⟨he, hsz, hmx, hK⟩ := hK
    have hrun := run_convert_string_bytes (P := P) w src dst e s hs hd he
    have hbel : Below base w0 (bytesWorld w e s) := h.below.trans ⟨rfl, rfl, rfl, by rw [bytesWorld_size]; omega, fun k hk => bytesWorld_at_old w e s k (by have := h.size; omega)⟩
    have hcap : s.size ≤ grownCap w s.size 0 e := grownCap_ge w _ _ _
    have hcm : grownCap w s.size 0 e ≤ maxLen := grownCap_le_maxLen w _ _ _ hmx
    have hbs : (bytesCells w e s).size = grownCap w s.size 0 e := by
      simp only [bytesCells, Array.size_append, Array.size_map, Array.size_replicate]
      have : s.data.size = s.size := rfl
      omega
    have hcell : ∀ (j : Nat) d, (s.data.toList.map byD)[j]? = some d → ∃ v, (bytesCells w e s)[j]? = some v ∧ Rep P Γ d v ∧ v.oneCell' = true := by
      intro j d hj
      simp only [List.getElem?_map] at hj
      cases hb : s.data.toList[j]? with
      | none => simp [hb] at hj
      | some b =>
        simp [hb] at hj
        subst hj
        have hb' : s.data[j]? = some b := by simpa using hb
        have hlt : j < s.data.size := (Array.getElem?_eq_some_iff.1 hb').1
        refine ⟨.int .u8 b.toNat, ?_, .val _, rfl⟩
        have hlt' : ¬ s.size ≤ j := by have : s.data.size = s.size := rfl; omega
        simp [bytesCells, Array.getElem?_append, hlt, hb', hlt']
    rcases hK with hK | hK
    · have hW := h.world hbel (by rw [bytesWorld_size]; have := h.size; omega) (fun b hb => bytesWorld_at_old w e s b hb)
      have hL := hW.learn (fun a v => a.block = w.heap.size ∧ a.spot = none ∧ a.off < s.size ∧ (bytesCells w e s)[a.off]? = some v)
        (by
          rintro ⟨b, o, sp⟩ v ⟨rfl, rfl, hlt, hv⟩
          refine ⟨by rw [cell_of_row _ w.heap.size o _ _ _ (bytesWorld_at_new w e s)]; exact hv, ?_⟩
          have hlt' : o < s.size := hlt
          obtain ⟨v', x1, _, x3⟩ := hcell o _ (List.getElem?_eq_getElem (by simpa using hlt'))
          rw [x1] at hv; cases hv; exact x3)
        (by rintro a v ⟨hb, _⟩ i cs hi hbx; have := (h.boxLt hi hbx).2; omega)
        (by rintro a v ⟨hb, _⟩ g n c e hg ht; have := (h.tokLt hg ht).2; omega)
      have hflat : flat (s.data.toList.map byD) = s.data.toList.map fun b => D.val (.int .u8 (b.toNat : Int)) := by
        generalize s.data.toList = l
        induction l with
        | nil => rfl
        | cons a l ih => rw [List.map_cons, flat_cons, ih]; rfl
      refine ⟨_, _, _, H, _, hrun, Γ.know_le _, hL, ?_, hK⟩
      have hlen : (s.data.toList.map byD).length = s.size := by simp
      have := Rep.slice (P := P) (Γ := Γ.know (fun a v => a.block = w.heap.size ∧ a.spot = none ∧ a.off < s.size ∧ (bytesCells w e s)[a.off]? = some v)) 0 e (s.data.toList.map byD)
        (some ⟨w.heap.size, 0, none⟩) ⟨w.heap.size, 0, none⟩ (grownCap w s.size 0 e) (fun j => (bytesCells w e s).getD j undef) (by omega) (by rw [hlen]; exact hcap) hcm (.inr rfl) (by omega)
        (by intro d hd; simp at hd; obtain ⟨b, _, rfl⟩ := hd; rw [hsz]; rfl)
        (by
          rw [hflat]
          intro j d hj
          obtain ⟨v, x1, x2, x3⟩ := hcell j d hj
          rw [Addr.add_lit, Nat.zero_add]
          refine .inr ⟨rfl, rfl, by rw [← hlen]; exact (List.getElem?_eq_some_iff.1 hj).1, by simp [x1]⟩)
        (by
          rw [hflat]
          intro j d hj
          obtain ⟨v, x1, x2, x3⟩ := hcell j d hj
          simpa [x1] using x2.mono (Γ.know_le _))
      rwa [hlen] at this
    · obtain ⟨j, Γ', j2, hj, hle, hb', hR⟩ := h.newBox (bytesCells w e s) e _ (.inr (Nat.le_refl _)) (s.data.toList.map byD)
        (by rw [hbs]; have : (s.data.toList.map byD).length = s.size := by simp
            omega) hcell hbel (fun b hb => bytesWorld_at_old w e s b hb) (bytesWorld_at_new w e s)
      exact ⟨_, _, Γ', _, _, hrun, hle, hR, .arr j e 0 s.size _ _ hb' hcap hcm, hK j j2 hj⟩
  · exact hK.elim

/-! ### append -/
/-- What is appended: the cells of a slice that is read. -/
theorem news_of (h : Rel P base w0 Γ H w) {g : Nat} {e : TypeId} {m : List D} {v : Value} (hx : Rep P Γ (.slice g e m) v) (hne : m ≠ []) :
    ∃ (ad : Addr) (cap : Nat) (news : List Value), v = .slice (some ad) m.length cap ∧ news.length = m.length * szOf P e ∧ (∀ j u, news[j]? = some u → w.cell? (ad.add j) = some u) ∧ (∀ u ∈ news, u.oneCell' = true) ∧ RepAll P Γ (flat m) news ∧
      (∀ d ∈ m, (cellsD d).length = szOf P e) := by
  cases hx with
  | nil => exact absurd rfl hne
  | slice _ _ _ a ad cap vs hg hc hm ha ht hs hk hr =>
    obtain rfl := ha.resolve_left hne
    have hfl := flat_length hs
    have hget : ∀ (j : Nat) u, ((List.range (flat m).length).map vs)[j]? = some u → ∃ d, (flat m)[j]? = some d ∧ u = vs j := by
      intro j u hu
      have hj : j < (flat m).length := by have := (List.getElem?_eq_some_iff.1 hu).1; simpa using this
      simp [List.getElem?_range hj] at hu
      exact ⟨_, List.getElem?_eq_getElem hj, hu.symm⟩
    refine ⟨ad, cap, (List.range (flat m).length).map vs, rfl, by simp [hfl], fun j u hu => ?_, fun u hu => ?_, ⟨by simp, fun i d v hd hv => ?_⟩, hs⟩
    · obtain ⟨d, hd, rfl⟩ := hget j u hu
      exact (h.know _ _ (hk j d hd)).1
    · obtain ⟨j, hj⟩ := List.mem_iff_getElem?.1 hu
      obtain ⟨d, hd, rfl⟩ := hget j u hj
      exact (h.know _ _ (hk j d hd)).2
    · obtain ⟨d', hd', rfl⟩ := hget i v hv
      exact hr i d hd

theorem retok (h : Rel P base w0 Γ H w) {g b n cap : Nat} {e : TypeId} {cur : Array Value} (hg : H g = some .spare) (ht : Γ.tok g b n cap e) (hw : w.heap[b]? = some (.cells cur e (0, 0))) (hm : cap ≤ maxLen)
    {w' : World} (hbel : Below base w0 w') (hsz : w.heap.size ≤ w'.heap.size) (hold : ∀ k, k < w.heap.size → k ≠ b → w'.heap[k]? = w.heap[k]?) (cur' : Array Value) (hw' : w'.heap[b]? = some (.cells cur' e (0, 0)))
    (hcs : cur'.size = cap * szOf P e) (N : Nat) (hN : n ≤ N) (hNc : N ≤ cap) (hsame : ∀ j, j < n * szOf P e → cur'[j]? = cur[j]?) (l' : List D) (hl' : l'.length = N) (hs' : ∀ d ∈ l', (cellsD d).length = szOf P e)
    (vals : List Value) (hr : RepAll P Γ (flat l') vals) (h1 : ∀ u ∈ vals, u.oneCell' = true) (hvals : ∀ j, j < N * szOf P e → cur'[j]? = vals[j]?) :
    ∃ g' Γ', 2 ≤ g' ∧ H g' = none ∧ Γ.le Γ' ∧ Rep P Γ' (.slice g' e l') (.slice (some ⟨b, 0, none⟩) N cap) ∧ Rel P base w0 Γ' ((H.put g none).put g' (some .spare)) w' := by
  have hlt := h.tokLt hg ht
  have hsub : ∀ j o, (H.put g none) j = some o → H j = some o ∧ j ≠ g := fun j o hj => by
    by_cases e : j = g
    · subst e; simp at hj
    · exact ⟨by rwa [Heap.put_ne _ _ e] at hj, e⟩
  have hnb : ∀ i cs, (H.put g none) i = some (.cells cs) → ¬ Γ.box i b := fun i cs hi => h.tokBox g i cs b n cap e hg (hsub _ _ hi).1 ht
  have hnt : ∀ g2 n c e2, (H.put g none) g2 = some .spare → ¬ Γ.tok g2 b n c e2 := fun g2 n2 c2 e2 hg2 ht2 =>
    (hsub _ _ hg2).2 (h.tokInj g2 g b n2 c2 e2 n cap e (hsub _ _ hg2).1 hg ht2 ht)
  have hle0 : n * szOf P e ≤ N * szOf P e := Nat.mul_le_mul_right _ hN
  have hR := (h.sub (fun j o hj => (hsub j o hj).1)).turn b hlt.1 hbel hsz hold (fun a v k hab => by
    have hoff := h.tokSep g b n cap e hg ht a v k hab
    have hc := (h.know a v k).1
    obtain ⟨ab, ao, asp⟩ := a
    simp only at hab hoff
    subst hab
    have hsp : asp = none := by
      cases asp with
      | none => rfl
      | some q => simp [World.cell?, hw] at hc
    subst hsp
    rw [cell_of_row _ ab ao cur' e (0, 0) hw', hsame ao hoff, ← cell_of_row _ ab ao cur e (0, 0) hw]
    exact hc) hnb hnt
  obtain ⟨g', Γ', g2, hg', hfr, hle, htok, hk, hR'⟩ := hR.newTok b N cap e cur' hlt.1 hw' hNc hm hcs (fun j v hj hv => h1 v (List.mem_of_getElem? (by rw [← hvals j hj]; exact hv))) hnb hnt
    (fun a v k hab => Nat.lt_of_lt_of_le (h.tokSep g b n cap e hg ht a v k hab) hle0)
  have hne : g' ≠ g := fun e' => hfr b n cap e (e' ▸ ht)
  refine ⟨g', Γ', g2, by rwa [Heap.put_ne _ _ hne] at hg', hle, ?_, hR'⟩
  subst hl'
  have hget : ∀ (i : Nat) d, (flat l')[i]? = some d → i < l'.length * szOf P e ∧ ∃ u, cur'[i]? = some u ∧ vals[i]? = some u := fun i d hd => by
    have hi : i < l'.length * szOf P e := by have := (List.getElem?_eq_some_iff.1 hd).1; rwa [flat_length hs'] at this
    have hi2 : i < cur'.size := by rw [hcs]; exact Nat.lt_of_lt_of_le hi (Nat.mul_le_mul_right _ hNc)
    exact ⟨hi, cur'[i], Array.getElem?_eq_getElem hi2, by rw [← hvals i hi]; exact Array.getElem?_eq_getElem hi2⟩
  exact .slice g' e l' _ ⟨b, 0, none⟩ cap (fun i => cur'.getD i undef) (by omega) hNc hm (.inr rfl) (fun _ => ⟨_, rfl, htok⟩) hs'
    (fun i d hd => by
      obtain ⟨hi, u, hu, _⟩ := hget i d hd
      rw [Addr.add_lit, Nat.zero_add]
      exact hk i _ hi (by simp [hu]))
    (fun i d hd => by
      obtain ⟨hi, u, hu, hv⟩ := hget i d hd
      have := (hr.2 i d u hd hv).mono hle
      simpa [hu] using this)

theorem RepAll.append {a b : List D} {x y : List Value} (h : RepAll P Γ a x) (k : RepAll P Γ b y) : RepAll P Γ (a ++ b) (x ++ y) := by
  refine ⟨by simp [h.1, k.1], fun i d v hd hv => ?_⟩
  rw [List.getElem?_append] at hd hv
  rw [h.1] at hd
  split at hd
  · rename_i hlt
    rw [if_pos hlt] at hv
    exact h.2 i d v hd hv
  · rename_i hlt
    rw [if_neg hlt] at hv
    exact k.2 _ d v hd hv

theorem append_gives (h : Rel P base w0 Γ H w) {t ty : TypeId} {s x : D} {vs vx : Value} {K : D → Heap → Prop} (hs : Rep P Γ s vs) (hx : Rep P Γ x vx) (hK : pAppend P t s x H K) :
    Gives P base w0 Γ w (Builtin.append_ #[t, t] ty #[vs, vx]) K := by
  unfold pAppend at hK
  split at hK
  · rename_i e hu
    split at hK
    · rename_i inf hi
      obtain ⟨hpos, hbp, ⟨z, hz1, hz2⟩, hK⟩ := hK
      have hsz : szOf P e = inf.size := by simp [szOf, hi]
      split at hK
      · rename_i g e1 l g2 e2 m
        obtain ⟨hl, hm, hb, hK⟩ := hK
        have hlen : l.length + m.length ≤ 140737488355328 := by
          have : (l.length + m.length) * 1 ≤ (l.length + m.length) * inf.bytes := Nat.mul_le_mul_left _ hbp
          omega
        have hcapof : ∀ old, l.length + m.length ≤ grownCap w (l.length + m.length) old e ∧ grownCap w (l.length + m.length) old e ≤ maxLen := fun old =>
          ⟨grownCap_ge w _ _ _, grownCap_le_maxLen w _ _ _ (by simp only [maxLen]; omega)⟩
        -- a new row
        have grown : ∀ (old : Nat) (xs news : List Value), RepAll P Γ (flat l) xs → (∀ u ∈ xs, u.oneCell' = true) → RepAll P Γ (flat m) news → (∀ u ∈ news, u.oneCell' = true) →
            (∀ d ∈ l ++ m, (cellsD d).length = szOf P e) →
            ∃ g' Γ', 2 ≤ g' ∧ H g' = none ∧ Γ.le Γ' ∧ Rep P Γ' (.slice g' e (l ++ m)) (.slice (some ⟨w.heap.size, 0, none⟩) (l.length + m.length) (grownCap w (l.length + m.length) old e)) ∧
              Rel P base w0 Γ' (H.put g' (some .spare)) (w.drew.alloc (.cells (xs.toArray ++ news.toArray ++ Builtin.zeroCells z.cells (grownCap w (l.length + m.length) old e - (l.length + m.length))) e)) := by
          intro old xs news r1 o1 r2 o2 hszs
          have hfl := flat_length hszs
          have hrr := r1.append r2
          rw [← flat_append] at hrr
          have hxl : (xs ++ news).length = (l.length + m.length) * szOf P e := by rw [← hrr.1, hfl]; simp
          have hzl : (Builtin.zeroCells z.cells (grownCap w (l.length + m.length) old e - (l.length + m.length))).size = (grownCap w (l.length + m.length) old e - (l.length + m.length)) * szOf P e := by
            rw [size_zeroCells, hz2, hsz]
          have hge := (hcapof old).1
          generalize hZ : Builtin.zeroCells z.cells (grownCap w (l.length + m.length) old e - (l.length + m.length)) = Z at hzl
          have hZl : Z.toList.length = (grownCap w (l.length + m.length) old e - (l.length + m.length)) * szOf P e := by simpa using hzl
          have harr : ((xs ++ news) ++ Z.toList).toArray = xs.toArray ++ news.toArray ++ Z := by apply Array.ext'; simp
          obtain ⟨g', Γ', g2', hg', hle, hrep, hR⟩ := owned h.drew e (l.length + m.length) (grownCap w (l.length + m.length) old e)
            ((xs ++ news) ++ Z.toList) (l ++ m) (by simp) hge (hcapof old).2 hszs
            (by rw [List.length_append, hxl, hZl, ← Nat.add_mul]; congr 1; omega)
            ⟨by rw [List.length_append, hrr.1]; omega, fun i d v hd hv => by
              have hi : i < (xs ++ news).length := by rw [← hrr.1]; exact (List.getElem?_eq_some_iff.1 hd).1
              rw [List.getElem?_append_left hi] at hv
              refine ⟨hrr.2 i d v hd hv, ?_⟩
              rcases List.mem_append.1 (List.mem_of_getElem? hv) with hh | hh
              · exact o1 v hh
              · exact o2 v hh⟩
          rw [harr] at hR
          exact ⟨g', Γ', g2', hg', hle, hrep, hR⟩
        have hmv : m = [] ∧ (∃ a c, vx = .slice a 0 c) ∨ m ≠ [] ∧ e = e2 := by
          by_cases hne : m = []
          · subst hne
            refine .inl ⟨rfl, ?_⟩
            cases hx with
            | nil => exact ⟨none, 0, rfl⟩
            | slice _ _ _ a ad cap vs hg hc hm ha ht hs hk hr => exact ⟨a, cap, rfl⟩
          · exact .inr ⟨hne, hm.resolve_left hne⟩
        rcases hK with ⟨rfl, rfl, hK0, hK⟩ | ⟨hg2, rfl, hsp, hK⟩
        · -- onto nil
          have hvs : vs = .slice none 0 0 := by cases hs <;> first | rfl | (exact absurd rfl ‹_›)
          subst hvs
          rcases hmv with ⟨rfl, a, c, rfl⟩ | ⟨hne, rfl⟩
          · refine ⟨.slice none 0 0, w, Γ, H, _, ?_, .refl Γ, h, .nil e, hK0 rfl⟩
            cases a <;> simp [Builtin.append_, run_underlying hu, sizeOf, typeInfo, hi, Builtin.lenOf, Builtin.firstCells, loadCells, loadCellsFrom]
          · obtain ⟨ad, cap, news, rfl, n1, n2, n3, n4, n5⟩ := news_of h hx hne
            have hml : 0 < m.length := List.length_pos_iff.2 hne
            have hrun := run_append_nil (P := P) w t ty e inf z hu hi hz1 ad m.length cap news (by rw [← hsz]; exact n1) n2 hml (by omega) (by simp at hb; omega)
            obtain ⟨g', Γ', g2', hg', hle, hrep, hR⟩ := grown 0 [] news ⟨rfl, by simp [flat]⟩ (by simp) n4 n3 (by simpa using n5)
            simp only [List.length_nil, Nat.zero_add, List.nil_append] at hrep hR
            exact ⟨_, _, Γ', _, _, hrun, hle, by simpa using hR, hrep, hK hne g' g2' hg'⟩
        · -- onto a row of the call's own
          cases hs with
          | nil => omega
          | slice _ _ _ a0 ad0 cap0 vs0 hg0 hc0 hm0 ha0 ht0 hs0 hk0 hr0 =>
            obtain ⟨b, rfl, htok⟩ := ht0 hg2
            obtain ⟨_, b', n', cap', e', cur, x1, x2, x3, x4, x5, x6⟩ := h.tokOf g hsp
            obtain ⟨rfl, rfl, rfl, rfl⟩ := h.tokFun _ _ _ _ _ _ _ _ _ htok x1
            have hfl := flat_length hs0
            -- the row as it is
            have hxs : ∀ (i : Nat) d, (flat l)[i]? = some d → ∃ u, cur[i]? = some u ∧ Rep P Γ d u ∧ u.oneCell' = true := fun i d hd => by
              have hk := hk0 i d hd
              have hne : l ≠ [] := by intro e; subst e; simp [flat] at hd
              have had : ad0 = ⟨b, 0, none⟩ := by have := ha0.resolve_left hne; exact (Option.some.inj this).symm
              subst had
              have hc := h.know _ _ hk
              rw [Addr.add_lit, Nat.zero_add, cell_of_row w b i cur e (0, 0) x3] at hc
              exact ⟨_, hc.1, hr0 i d hd, hc.2⟩
            have hcl : l.length * szOf P e ≤ cur.size := by rw [x6]; exact Nat.mul_le_mul_right _ x4
            have hxl : (cur.toList.take (l.length * szOf P e)).length = l.length * szOf P e := by simp; omega
            have hall : RepAll P Γ (flat l) (cur.toList.take (l.length * szOf P e)) := ⟨by rw [hxl, hfl], fun i d v hd hv => by
              obtain ⟨u, hu', hr', _⟩ := hxs i d hd
              rw [List.getElem?_take] at hv
              split at hv
              · have : cur[i]? = some v := by simpa using hv
                rw [hu'] at this; cases this; exact hr'
              · cases hv⟩
            have hone : ∀ u ∈ cur.toList.take (l.length * szOf P e), u.oneCell' = true := fun u hu' => by
              obtain ⟨i, hi'⟩ := List.mem_iff_getElem?.1 hu'
              have hlt : i < (flat l).length := by rw [hfl, ← hxl]; exact (List.getElem?_eq_some_iff.1 hi').1
              obtain ⟨u2, hu2, _, ho⟩ := hxs i _ (List.getElem?_eq_getElem hlt)
              rw [List.getElem?_take] at hi'
              split at hi'
              · have : cur[i]? = some u := by simpa using hi'
                rw [hu2] at this; cases this; exact ho
              · cases hi'
            rcases hmv with ⟨rfl, a, c, rfl⟩ | ⟨hne, rfl⟩
            · -- nothing is appended
              obtain ⟨g', Γ', g2', hg', hle, hrep, hR⟩ := retok h hsp htok x3 x5 h.below (Nat.le_refl _) (fun _ _ _ => rfl) cur x3 x6 l.length (Nat.le_refl _) x4 (fun _ _ => rfl) l rfl hs0 _ hall hone (fun j hj => by
                rw [List.getElem?_take, if_pos hj]; simp)
              refine ⟨_, w, Γ', _, _, ?_, hle, hR, hrep, by simpa using hK g' g2' hg'⟩
              cases a <;> simp [Builtin.append_, run_underlying hu, sizeOf, typeInfo, hi, Builtin.lenOf, Builtin.firstCells, loadCells, loadCellsFrom, x4, storeCells]
            · obtain ⟨ad, cap, news, rfl, n1, n2, n3, n4, n5⟩ := news_of h hx hne
              have hszs : ∀ d ∈ l ++ m, (cellsD d).length = szOf P e := fun d hd => (List.mem_append.1 hd).elim (hs0 d) (n5 d)
              by_cases hroom : l.length + m.length ≤ cap0
              · have hfit : l.length * inf.size + news.length ≤ cur.size := by rw [n1, x6, ← hsz, ← Nat.add_mul]; exact Nat.mul_le_mul_right _ hroom
                have hrun := run_append_room (P := P) w t ty e inf hu hi b l.length cap0 cur x3 ad m.length cap news (by rw [← hsz]; exact n1) n2 n3 hroom hfit
                rw [← hsz] at hrun hfit
                have hrow := setRow_heap w b cur (cur.toList.take (l.length * szOf P e) ++ news ++ cur.toList.drop (l.length * szOf P e + news.length)).toArray e (0, 0) x3
                have hrr := hall.append n4
                rw [← flat_append] at hrr
                have hvl : (cur.toList.take (l.length * szOf P e) ++ news).length = (l.length + m.length) * szOf P e := by rw [List.length_append, hxl, n1, Nat.add_mul]
                obtain ⟨g', Γ', g2', hg', hle, hrep, hR⟩ := retok h hsp htok x3 x5 (w' := w.setRow b (cur.toList.take (l.length * szOf P e) ++ news ++ cur.toList.drop (l.length * szOf P e + news.length)).toArray)
                  (h.below.trans ⟨rfl, rfl, rfl, by simp, fun k hk => setRow_other w b k _ (by omega)⟩) (by simp) (fun k _ hk => setRow_other w b k _ hk) _ hrow
                  (by simp only [List.size_toArray, List.length_append, List.length_drop, hxl, Array.length_toList]; omega) (l.length + m.length) (by omega) hroom
                  (fun j hj => by
                    have : j < (cur.toList.take (l.length * szOf P e)).length := by rw [hxl]; exact hj
                    simp only [List.getElem?_toArray]
                    rw [List.append_assoc, List.getElem?_append_left this, List.getElem?_take, if_pos hj]; simp)
                  (l ++ m) (by simp) hszs _ hrr (fun u hu' => (List.mem_append.1 hu').elim (hone u) (n3 u)) (fun j hj => by
                    simp only [List.getElem?_toArray]
                    rw [List.getElem?_append_left (by rw [hvl]; exact hj)])
                exact ⟨_, _, Γ', _, _, hrun, hle, hR, hrep, hK g' g2' hg'⟩
              · have hrun := run_append_grow (P := P) w t ty e inf z hu hi hz1 ⟨b, 0, none⟩ l.length cap0 (cur.toList.take (l.length * szOf P e)) (by rw [hxl, hsz]) (fun j v hv => by
                    rw [List.getElem?_take] at hv
                    split at hv
                    · rw [Addr.add_lit, Nat.zero_add, cell_of_row w b j cur e (0, 0) x3]; simpa using hv
                    · cases hv) ad m.length cap news (by rw [← hsz]; exact n1) n2 (by omega) (by omega) (growslice_fits (by omega) hb)
                obtain ⟨g', Γ', g2', hg', hle, hrep, hR⟩ := grown cap0 _ news hall hone n4 n3 hszs
                have hne' : g' ≠ g := fun e => by subst e; rw [hsp] at hg'; cases hg'
                refine ⟨_, _, Γ', _, _, hrun, hle, hR.sub ?_, hrep, hK g' g2' hg'⟩
                intro i o hi'
                by_cases e1 : i = g'
                · subst e1; simpa using hi'
                · rw [Heap.put_ne _ _ e1] at hi' ⊢
                  by_cases e2 : i = g
                  · subst e2; simp at hi'
                  · rwa [Heap.put_ne _ _ e2] at hi'
      · exact hK.elim
    · exact hK.elim
  · exact hK.elim
end
end Go.Pw
