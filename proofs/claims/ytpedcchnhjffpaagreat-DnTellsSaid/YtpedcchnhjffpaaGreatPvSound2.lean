/- A part of the proof: functions of the program, walked, or what operations come to. -/
import Derived.Test.YtpedcchnhjffpaaGreatPvSound
namespace Go.Pv
open Go.RowKit
section
variable {P : Program} {base : Prot} {w0 : World} {Γ : Gh} {H : Heap} {w : World}

/-- Of an optional bound. -/
def RepO (P : Program) (Γ : Gh) : Option D → Option Value → Prop
  | none, none => True
  | some d, some v => Rep P Γ d v
  | _, _ => False
theorem RepO.ev {st : PSt} {a : Act} (h : EnvRep P Γ st.env a.tmps) (x : Option Operand) : RepO P Γ (x.map st.ev) (x.map a.eval) := by
  cases x with
  | none => trivial
  | some x => exact h.ev x
theorem bounds_run {lo hi : Option D} {vl vh : Option Value} {len l h : Nat} (hl : RepO P Γ lo vl) (hh : RepO P Γ hi vh) (hK : eBounds lo hi len = some (l, h)) (b : Bool) (cap : Nat) (hc : len ≤ cap) :
    (Instr.sliceBounds b len cap vl vh none).run P w = .ok (l, h, cap) w ∧ l ≤ h ∧ h ≤ len := by
  unfold eBounds at hK
  split at hK
  · cases vl <;> cases vh <;> simp only [RepO] at hl hh
    cases hK
    exact ⟨by simp [Instr.sliceBounds], by omega, by omega⟩
  · rename_i k l
    cases vl <;> cases vh <;> simp only [RepO] at hl hh
    obtain rfl := rep_int hl
    split at hK
    · rename_i h01
      obtain ⟨h0, h1⟩ := h01
      cases hK
      exact ⟨by simp [Instr.sliceBounds, run_sliceBound, h0, h1], by omega, by omega⟩
    · cases hK
  · rename_i k h
    cases vl <;> cases vh <;> simp only [RepO] at hl hh
    obtain rfl := rep_int hh
    split at hK
    · rename_i h01
      obtain ⟨h0, h1⟩ := h01
      cases hK
      exact ⟨by simp [Instr.sliceBounds, run_sliceBound, h0, show h ≤ (cap : Int) by omega], by omega, by omega⟩
    · cases hK
  · rename_i k l k' h
    cases vl <;> cases vh <;> simp only [RepO] at hl hh
    obtain rfl := rep_int hl
    obtain rfl := rep_int hh
    split at hK
    · rename_i h01
      obtain ⟨h0, h1, h2⟩ := h01
      cases hK
      have e : ((h.toNat : Nat) : Int) = h := by omega
      exact ⟨by simp [Instr.sliceBounds, run_sliceBound w k' h cap _ (by omega) (by omega), run_sliceBound w k l h.toNat _ h0 (by omega)], by omega, by omega⟩
    · cases hK
  · cases hK
/-- The same, of a part with no room behind it. -/
theorem bounds3_run {lo : Option D} {k k' : IntKind} {h m : Int} {vl : Option Value} {len l u : Nat} (hl : RepO P Γ lo vl) (hm : h = m) (hK : eBounds lo (some (.val (.int k h))) len = some (l, u)) (b : Bool) (cap : Nat) (hc : len ≤ cap) :
    (Instr.sliceBounds b len cap vl (some (.int k h)) (some (.int k' m))).run P w = .ok (l, u, u) w ∧ l ≤ u ∧ u ≤ len := by
  subst hm
  unfold eBounds at hK
  split at hK
  · rename_i e; cases e
  · rename_i e; cases e
  · rename_i k2 h2 e1 e2
    cases e2
    cases vl <;> simp only [RepO] at hl
    split at hK
    · rename_i h01
      obtain ⟨h0, h1⟩ := h01
      cases hK
      have e : ((h.toNat : Nat) : Int) = h := by omega
      exact ⟨by simp [Instr.sliceBounds, run_sliceBound w k' h cap _ (by omega) (by omega), run_sliceBound w k h h.toNat _ (by omega) (by omega)], by omega, by omega⟩
    · cases hK
  · rename_i k1 l k2 h2 e2
    cases e2
    cases vl <;> simp only [RepO] at hl
    obtain rfl := rep_int hl
    split at hK
    · rename_i h01
      obtain ⟨h0, h1, h2⟩ := h01
      cases hK
      have e : ((h.toNat : Nat) : Int) = h := by omega
      exact ⟨by simp [Instr.sliceBounds, run_sliceBound w k' h cap _ (by omega) (by omega), run_sliceBound w k h h.toNat _ (by omega) (by omega), run_sliceBound w k1 l h.toNat _ h0 (by omega)], by omega, by omega⟩
    · cases hK
  · cases hK

theorem flat_drop {e : TypeId} : ∀ {l : List D} (_ : ∀ d ∈ l, (cellsD d).length = szOf P e) (a : Nat), flat (l.drop a) = (flat l).drop (a * szOf P e)
  | [], _, a => by simp [flat]
  | d :: l, h, 0 => by simp
  | d :: l, h, a + 1 => by
    have hx := h d (by simp)
    rw [List.drop_succ_cons, flat_cons, flat_drop (fun y hy => h y (by simp [hy])) a, Nat.add_mul, Nat.one_mul, Nat.add_comm (a * szOf P e), ← List.drop_drop, List.drop_append_of_le_length (by omega), ← hx, List.drop_length, List.nil_append]
theorem flat_take {e : TypeId} : ∀ {l : List D} (_ : ∀ d ∈ l, (cellsD d).length = szOf P e) (a : Nat), flat (l.take a) = (flat l).take (a * szOf P e)
  | [], _, a => by simp [flat]
  | d :: l, h, 0 => by simp [flat]
  | d :: l, h, a + 1 => by
    have hx := h d (by simp)
    rw [List.take_succ_cons, flat_cons, flat_cons, flat_take (fun y hy => h y (by simp [hy])) a, Nat.add_mul, Nat.one_mul, List.take_append, hx]
    rw [List.take_of_length_le (l := cellsD d) (by omega), show a * szOf P e + szOf P e - szOf P e = a * szOf P e by omega]

/-- An empty part: where it lies matters to nobody. -/
theorem empty_rep {e : TypeId} (a : Option Addr) (cap : Nat) (hm : cap ≤ maxLen) : Rep P Γ (.slice 0 e []) (.slice a 0 cap) := by
  have := Rep.slice (P := P) (Γ := Γ) 0 e [] a ⟨0, 0, none⟩ cap (fun _ => undef) (by omega) (by omega) (by omega) (by simp) hm (.inl rfl) (by simp) (by simp [flat]) (by simp [flat])
  simpa using this
theorem empty3_rep {e : TypeId} (a : Option Addr) (cap : Nat) (hm : cap ≤ maxLen) (ha : a.isSome = true) : Rep P Γ (.slice 3 e []) (.slice a 0 cap) := by
  have := Rep.slice (P := P) (Γ := Γ) 3 e [] a ⟨0, 0, none⟩ cap (fun _ => undef) (by omega) (by omega) (fun _ => ha) (by simp) hm (.inl rfl) (by simp) (by simp [flat]) (by simp [flat])
  simpa using this
theorem empty2_rep {e : TypeId} (a : Option Addr) : Rep P Γ (.slice 2 e []) (.slice a 0 0) := by
  have := Rep.slice (P := P) (Γ := Γ) 2 e [] a ⟨0, 0, none⟩ 0 (fun _ => undef) (by omega) (by simp) (by omega) (by simp) (by simp [maxLen]) (.inl rfl) (by simp) (by simp [flat]) (by simp [flat])
  simpa using this
theorem subArr_rep {i : Nat} {e : TypeId} {off sz a b : Nat} {x : Gi} {cap : Nat} (hb : Γ.g i = some x) (hc : b ≤ cap) (hm : cap ≤ maxLen) (h1 : a ≤ b) : Rep P Γ (subArr i e off sz a b) (sliced (some ⟨x.b, off, none⟩) a b cap sz) := by
  unfold subArr
  split
  · rename_i hlt
    have hca : cap ≠ a := by omega
    have := Rep.arr (P := P) (Γ := Γ) i e (off + a * sz) (b - a) x (cap - a) hb (by omega) (by omega)
    rw [sliced, if_neg hca, Option.map_some, Addr.add_lit]
    exact this
  · have hz : b - a = 0 := by omega
    have := empty3_rep (P := P) (Γ := Γ) (e := e) (if cap = a then some ⟨x.b, off, none⟩ else some (Addr.add ⟨x.b, off, none⟩ (a * sz))) (cap - a) (by omega) (by split <;> rfl)
    by_cases q : cap = a <;> simpa [sliced, q, hz] using this
theorem subRow_rep {i : Nat} {e : TypeId} {off len a b : Nat} {x : Gi} (hb : Γ.g i = some x) (he : x.e = e) (hc : off + len ≤ x.cap) (hm : x.cap ≤ maxLen) (h1 : a ≤ b) (h2 : b ≤ len) :
    Rep P Γ (subRow i e off a b) (sliced (some ⟨x.b, x.o + off * szOf P e, none⟩) a b (x.cap - off) (szOf P e)) := by
  unfold subRow
  split
  · rename_i hlt
    have hca : x.cap - off ≠ a := by omega
    have := Rep.row (P := P) (Γ := Γ) i e (off + a) (b - a) x hb he (by omega) hm
    rw [sliced, if_neg hca, Option.map_some, Addr.add_lit, show x.cap - off - a = x.cap - (off + a) by omega, show x.o + off * szOf P e + a * szOf P e = x.o + (off + a) * szOf P e by rw [Nat.add_mul]; omega]
    exact this
  · split
    · rename_i h0 h3
      subst h3
      have hb0 : b = 0 := by omega
      subst hb0
      have := Rep.row (P := P) (Γ := Γ) i e off 0 x hb he (by omega) hm
      by_cases q : x.cap - off = 0
      · rw [sliced, if_pos q]; exact this
      · rw [sliced, if_neg q, Option.map_some, Addr.add_lit, Nat.zero_mul, Nat.add_zero]; exact this
    · have hz : b - a = 0 := by omega
      have := empty3_rep (P := P) (Γ := Γ) (e := e) (if x.cap - off = a then some ⟨x.b, x.o + off * szOf P e, none⟩ else some (Addr.add ⟨x.b, x.o + off * szOf P e, none⟩ (a * szOf P e))) (x.cap - off - a) (by omega) (by split <;> rfl)
      by_cases q : x.cap - off = a <;> simpa [sliced, q, hz] using this

/-- A part of a slice that is read. -/
theorem part_rep {g : Nat} {e e' : TypeId} {l : List D} {ao : Option Addr} {n cap a b : Nat} (g' : Nat) (hx : Rep P Γ (.slice g e' l) (.slice ao n cap)) (he : e = e' ∨ l = []) (h1 : a ≤ b) (h2 : b ≤ l.length) (m : Nat) (hg : g' = 0 ∧ m = cap ∨ g' = 2 ∧ m = b) :
    Rep P Γ (.slice g' e ((l.take b).drop a)) (sliced ao a b m (szOf P e)) := by
  have hlen : ((l.take b).drop a).length = b - a := by simp; omega
  have hcn : b ≤ cap ∧ cap ≤ maxLen ∧ n = l.length := by
    cases hx with
    | nil => simp at h2; subst h2; simp [maxLen]
    | slice _ _ _ _ ad _ vs hg h2' h3' hc hm ha hs hk hr0 => exact ⟨by omega, hm, rfl⟩
  have hmb : b ≤ m ∧ m ≤ cap := by rcases hg with ⟨_, rfl⟩ | ⟨_, rfl⟩ <;> omega
  rcases Nat.eq_zero_or_pos (b - a) with hz | hz
  · have hnil : (l.take b).drop a = [] := List.eq_nil_of_length_eq_zero (by omega)
    rw [hnil]
    rcases hg with ⟨rfl, rfl⟩ | ⟨rfl, rfl⟩
    · have := empty_rep (P := P) (Γ := Γ) (e := e) (if m = a then ao else ao.map (·.add (a * szOf P e))) (m - a) (by omega)
      simpa [sliced, hz] using this
    · have := empty2_rep (P := P) (Γ := Γ) (e := e) (if m = a then ao else ao.map (·.add (a * szOf P e)))
      simpa [sliced, hz] using this
  · cases hx with
    | nil => simp at h2; omega
    | slice _ _ _ _ ad _ vs hg0 h20 h30 hc hm ha hs hk hr0 =>
      have hne : l ≠ [] := by intro e; subst e; simp at h2; omega
      obtain rfl := ha.resolve_left hne
      obtain rfl := he.resolve_right hne
      have hca : m ≠ a := by omega
      have hs' : ∀ d ∈ (l.take b).drop a, (cellsD d).length = szOf P e := fun d hd => hs d (List.mem_of_mem_take (List.mem_of_mem_drop hd))
      have hst : ∀ d ∈ l.take b, (cellsD d).length = szOf P e := fun d hd => hs d (List.mem_of_mem_take hd)
      have hfl : ∀ (i : Nat) d, (flat ((l.take b).drop a))[i]? = some d → (flat l)[a * szOf P e + i]? = some d := by
        intro i d hd
        rw [flat_drop hst, flat_take hs, List.getElem?_drop, List.getElem?_take] at hd
        split at hd
        · exact hd
        · cases hd
      have := Rep.slice (P := P) (Γ := Γ) g' e ((l.take b).drop a) (some (ad.add (a * szOf P e))) (ad.add (a * szOf P e)) (m - a) (fun i => vs (a * szOf P e + i)) (by rcases hg with ⟨rfl, _⟩ | ⟨rfl, _⟩ <;> omega)
        (by rw [hlen]; rintro rfl; rcases hg with ⟨h, _⟩ | ⟨_, rfl⟩ <;> omega) (by rcases hg with ⟨rfl, _⟩ | ⟨rfl, _⟩ <;> omega) (by omega) (by omega) (.inr rfl) hs'
        (fun i d hd => by rw [Addr.add_add]; exact hk _ _ (hfl i d hd)) (fun i d hd => hr0 _ _ (hfl i d hd))
      simpa [sliced, hca, hlen] using this

theorem sliceAt_run {t e : TypeId} (hu : P.underlying t = some (.slice e)) (hp : 0 < szOf P e) (a : Option Addr) (n c : Nat) (vl vh vm : Option Value) (l h m : Nat) (hr : (Instr.sliceBounds true n c vl vh vm).run P w = .ok (l, h, m) w) :
    (Instr.sliceAt t (.slice a n c) vl vh vm).run P w = .ok (sliced a l h m (szOf P e)) w := by
  have hsz := run_sizeOf_pos hp w
  simp only [Instr.sliceAt, Sem.run_bind, run_underlying hu, Result.andThen_ok]
  simp only [Instr.slice, Sem.run_bind, run_underlying hu, Result.andThen_ok, hr, hsz, Sem.run_pure]
  rfl
theorem slice_still {t : TypeId} {x : D} {v : Value} {lo hi : Option D} {vl vh : Option Value} {d : D} (hx : Rep P Γ x v) (hl : RepO P Γ lo vl) (hh : RepO P Γ hi vh) (hK : eSlice P t x lo hi = some d) :
    Still P Γ w (Instr.sliceAt t v vl vh none) d := by
  unfold eSlice at hK
  split at hK
  · rename_i s hu
    obtain rfl := rep_val hx
    have hlen : s.data.toList.length = s.size := by simp
    split at hK
    · rename_i l h hb
      cases hK
      obtain ⟨hr, h1, h2⟩ := bounds_run (w := w) hl hh hb false s.size (by omega)
      rw [hlen] at hr
      have he : s.extract l h = ⟨((s.data.toList.take h).drop l).toArray⟩ := by
        apply ByteArray.ext; apply Array.ext'
        simp [List.drop_take]
      rw [← he]
      exact ⟨_, by rw [run_sliceAt_string w t _ _ _ _ hu]; simp only [Instr.slice, Sem.run_bind, run_underlying hu, hr, Result.andThen_ok, Option.isSome_none, Bool.false_eq_true, if_false, Sem.run_pure], .val _⟩
    · cases hK
  · rename_i e g e' l hu
    split at hK
    · rename_i hc
      obtain ⟨hp, he⟩ := hc
      split at hK
      · rename_i a b hb
        cases hK
        obtain ⟨ao, n, cap, rfl⟩ : ∃ ao n cap, v = .slice ao n cap := by cases hx <;> exact ⟨_, _, _, rfl⟩
        have hn : n = l.length ∧ l.length ≤ cap := by
          cases hx with
          | nil => exact ⟨rfl, by simp⟩
          | slice _ _ _ _ ad _ vs hg h2' h3' hc hm ha hs hk hr0 => exact ⟨rfl, hc⟩
        obtain ⟨hr, h1, h2⟩ := bounds_run (w := w) hl hh hb true cap hn.2
        rw [← hn.1] at hr
        exact ⟨_, sliceAt_run hu hp _ _ _ _ _ _ _ _ _ hr, part_rep 0 hx he h1 h2 cap (.inl ⟨rfl, rfl⟩)⟩
      · cases hK
    · cases hK
  · rename_i e i e' off len hu
    split at hK
    · rename_i hc
      obtain ⟨hp, rfl⟩ := hc
      split at hK
      · rename_i a b hb
        cases hK
        cases hx with
        | arr _ _ _ _ y cap hy hc hm =>
          obtain ⟨hr, h1, h2⟩ := bounds_run (w := w) hl hh hb true cap hc
          exact ⟨_, sliceAt_run hu hp _ _ _ _ _ _ _ _ _ hr, subArr_rep hy (by omega) hm h1⟩
      · cases hK
    · cases hK
  · rename_i e i e' off len hu
    split at hK
    · rename_i hc
      obtain ⟨hp, rfl⟩ := hc
      split at hK
      · rename_i a b hb
        cases hK
        cases hx with
        | row _ _ _ _ y hy he hc hm =>
          obtain ⟨hr, h1, h2⟩ := bounds_run (w := w) hl hh hb true (y.cap - off) (by omega)
          exact ⟨_, sliceAt_run hu hp _ _ _ _ _ _ _ _ _ hr, subRow_rep hy he hc hm h1 h2⟩
      · cases hK
    · cases hK
  · rename_i r i off hu
    split at hK
    · rename_i n e hu2
      split at hK
      · rename_i hc
        obtain ⟨hp, hn⟩ := hc
        split at hK
        · rename_i a b hb
          cases hK
          have hsz := run_sizeOf_pos hp w
          cases hx with
          | ptr _ _ y hy =>
            obtain ⟨hr, h1, h2⟩ := bounds_run (w := w) hl hh hb false n (Nat.le_refl _)
            refine ⟨sliced (some ⟨y.b, off, none⟩) a b n (szOf P e), ?_, subArr_rep hy h2 hn h1⟩
            simp only [Instr.sliceAt, Sem.run_bind, run_underlying hu, Result.andThen_ok]
            simp only [Instr.slice, Sem.run_bind, run_underlying hu, run_underlying hu2, Result.andThen_ok, asAddr, Sem.run_pure, hr, hsz]
            by_cases q : n = a <;> simp [sliced, q]
        · cases hK
      · cases hK
    · cases hK
  · rename_i n e i off hu
    split at hK
    · rename_i hc
      obtain ⟨hp, hn⟩ := hc
      split at hK
      · rename_i a b hb
        cases hK
        have hsz := run_sizeOf_pos hp w
        cases hx with
        | ptr _ _ y hy =>
          obtain ⟨hr, h1, h2⟩ := bounds_run (w := w) hl hh hb false n (Nat.le_refl _)
          refine ⟨sliced (some ⟨y.b, off, none⟩) a b n (szOf P e), ?_, subArr_rep hy h2 hn h1⟩
          simp only [Instr.sliceAt, Sem.run_bind, run_underlying hu, Result.andThen_ok, Instr.sureAddr, Sem.run_pure, hr, hsz]
          by_cases q : n = a <;> simp [sliced, q]
      · cases hK
    · cases hK
  · cases hK

theorem slice3_still {t : TypeId} {x m : D} {v vm : Value} {lo hi : Option D} {vl vh : Option Value} {d : D} (hx : Rep P Γ x v) (hl : RepO P Γ lo vl) (hh : RepO P Γ hi vh) (hm : Rep P Γ m vm) (hK : eSlice3 P t x lo hi m = some d) :
    Still P Γ w (Instr.sliceAt t v vl vh (some vm)) d := by
  unfold eSlice3 at hK
  split at hK
  · rename_i e k h k' m hu
    obtain rfl := rep_int hm
    cases vh with
    | none => simp only [RepO] at hh
    | some vh =>
    simp only [RepO] at hh
    obtain rfl := rep_int hh
    split at hK
    · rename_i hc
      obtain ⟨hp, hhm⟩ := hc
      split at hK
      · rename_i g e' l
        split at hK
        · rename_i he
          split at hK
          · rename_i a b hb
            cases hK
            obtain ⟨ao, n, cap, rfl⟩ : ∃ ao n cap, v = .slice ao n cap := by cases hx <;> exact ⟨_, _, _, rfl⟩
            have hn : n = l.length ∧ l.length ≤ cap := by
              cases hx with
              | nil => exact ⟨rfl, by simp⟩
              | slice _ _ _ _ ad _ vs hg h2' h3' hc hm ha hs hk hr0 => exact ⟨rfl, hc⟩
            obtain ⟨hr, h1, h2⟩ := bounds3_run (w := w) (k' := k') hl hhm hb true cap hn.2
            rw [← hn.1] at hr
            exact ⟨_, sliceAt_run hu hp _ _ _ _ _ _ _ _ _ hr, part_rep 2 hx he h1 h2 b (.inr ⟨rfl, rfl⟩)⟩
          · cases hK
        · cases hK
      · rename_i i2 e2 o2 len
        split at hK
        · rename_i a b hb
          split at hK
          · rename_i hab
            cases hK
            subst hab
            cases hx with
            | row _ _ _ _ y hy he hc hm =>
              obtain ⟨hr, h1, h2⟩ := bounds3_run (w := w) (k' := k') hl hhm hb true (y.cap - o2) (by omega)
              refine ⟨_, sliceAt_run hu hp _ _ _ _ _ _ _ _ _ hr, ?_⟩
              simp only [sliced, Nat.sub_self]
              exact empty2_rep _
          · cases hK
        · cases hK
      · rename_i i2 e2 o2 len
        split at hK
        · rename_i a b hb
          split at hK
          · rename_i hab
            cases hK
            subst hab
            cases hx with
            | arr _ _ _ _ y cap hy hc hm =>
              obtain ⟨hr, h1, h2⟩ := bounds3_run (w := w) (k' := k') hl hhm hb true cap (by omega)
              refine ⟨_, sliceAt_run hu hp _ _ _ _ _ _ _ _ _ hr, ?_⟩
              simp only [sliced, Nat.sub_self]
              exact empty2_rep _
          · cases hK
        · cases hK
      · cases hK
    · cases hK
  · cases hK

theorem makeInterface_still {t : TypeId} {x : D} {v : Value} {d : D} (hx : Rep P Γ x v) (hK : eMakeInterface P t x = some d) : Still P Γ w (Instr.makeInterface t v) d := by
  unfold eMakeInterface at hK
  split at hK
  · cases hK
  · rename_i k hd hu
    have hrun : (Instr.makeInterface t v).run P w = .ok (.iface t v) w := by
      simp only [Instr.makeInterface, Sem.run_bind, run_underlying hu, Result.andThen_ok]
      cases k <;> first | rfl | exact absurd rfl (hd _)
    split at hK
    · obtain rfl := rep_val hx
      cases hK
      exact ⟨_, hrun, .val _⟩
    · cases hK
      exact ⟨_, hrun, .ifc _ _ _ hx⟩
  · cases hK

/-! ### Values of several cells -/
theorem oneD_rep {d : D} {v : Value} (h : oneD d = true) (hr : Rep P Γ d v) : v.oneCell' = true := by
  cases hr <;> simp_all [oneD, Value.oneCell']
theorem cells_one {v : Value} (h : v.oneCell' = true) : v.cells = #[v] := by
  cases v <;> simp_all [Value.oneCell', Value.cells]
/-- A part's cells, as values. -/
theorem part_cells {d : D} {v : Value} (h : okPart d = true) (hr : Rep P Γ d v) : RepAll P Γ (cellsD d) v.cells.toList ∧ ∀ u ∈ v.cells.toList, u.oneCell' = true := by
  unfold okPart at h
  split at h
  · rename_i cs
    obtain ⟨vs, rfl, ha⟩ := RepAll.ofAgg hr
    refine ⟨by simpa [cellsD, Value.cells] using ha, fun u hu => ?_⟩
    have hu' : u ∈ vs := by simpa [Value.cells] using hu
    obtain ⟨i, hi⟩ := List.mem_iff_getElem?.1 hu'
    have hlt : i < cs.length := by rw [ha.1]; exact (List.getElem?_eq_some_iff.1 hi).1
    have hd : cs[i]? = some cs[i] := List.getElem?_eq_getElem hlt
    exact oneD_rep (List.all_eq_true.1 h _ (List.mem_of_getElem? hd)) (ha.2 i _ u hd hi)
  · have h1 := oneD_rep h hr
    have hc : cellsD d = [d] := by cases d <;> simp_all [cellsD, oneD]
    rw [cells_one h1, hc]
    refine ⟨⟨rfl, fun i d' v' hd hv => ?_⟩, by simpa using h1⟩
    cases i with
    | zero => simp at hd hv; subst hd; subst hv; exact hr
    | succ i => simp at hd
def updV (vs : List Value) (off : Nat) : List Value → List Value
  | [] => vs
  | v :: r => updV (vs.set off v) (off + 1) r
theorem updV_length : ∀ (r vs : List Value) (off : Nat), (updV vs off r).length = vs.length
  | [], _, _ => rfl
  | v :: r, vs, off => by simp [updV, updV_length r]
theorem updD_length : ∀ (r cs : List D) (off : Nat), (updD cs off r).length = cs.length
  | [], _, _ => rfl
  | v :: r, vs, off => by simp [updD, updD_length r]
theorem RepAll.set {cs : List D} {vs : List Value} (h : RepAll P Γ cs vs) (o : Nat) {d : D} {v : Value} (hr : Rep P Γ d v) : RepAll P Γ (cs.set o d) (vs.set o v) := by
  refine ⟨by simp [h.1], fun i d' v' hd hv => ?_⟩
  rw [List.getElem?_set] at hd hv
  split at hd
  · rename_i e
    rw [if_pos e] at hv
    split at hd <;> split at hv <;> first | (cases hd; done) | (cases hv; done) | skip
    cases hd; cases hv
    exact hr
  · rename_i e
    rw [if_neg e] at hv
    exact h.2 i d' v' hd hv
theorem RepAll.upd : ∀ {ds : List D} {us : List Value} {cs : List D} {vs : List Value} (_ : RepAll P Γ cs vs) (o : Nat) (_ : RepAll P Γ ds us), RepAll P Γ (updD cs o ds) (updV vs o us)
  | [], [], _, _, h, _, _ => h
  | [], _ :: _, _, _, _, _, k => by simp [RepAll] at k
  | _ :: _, [], _, _, _, _, k => by simp [RepAll] at k
  | d :: ds, u :: us, cs, vs, h, o, k => by
    have hd : Rep P Γ d u := k.2 0 d u rfl rfl
    exact RepAll.upd (h.set o hd) (o + 1) ⟨by simpa using k.1, fun i d' v' hd hv => k.2 (i + 1) d' v' (by simpa using hd) (by simpa using hv)⟩
/-- A longer row of values whose beginning the cells tell. -/
def RepPre (P : Program) (Γ : Gh) (cs : List D) (vs : List Value) : Prop := cs.length ≤ vs.length ∧ ∀ (i : Nat) d v, cs[i]? = some d → vs[i]? = some v → Rep P Γ d v ∧ v.oneCell' = true
theorem RepPre.upd : ∀ {ds : List D} {us : List Value} {cs : List D} {vs : List Value} (_ : RepPre P Γ cs vs) (o : Nat) (_ : RepAll P Γ ds us) (_ : ∀ u ∈ us, u.oneCell' = true), RepPre P Γ (updD cs o ds) (updV vs o us)
  | [], [], _, _, h, _, _, _ => h
  | [], _ :: _, _, _, _, _, k, _ => by simp [RepAll] at k
  | _ :: _, [], _, _, _, _, k, _ => by simp [RepAll] at k
  | d :: ds, u :: us, cs, vs, h, o, k, k1 => by
    have hr : Rep P Γ d u ∧ u.oneCell' = true := ⟨k.2 0 d u rfl rfl, k1 u (by simp)⟩
    refine RepPre.upd (cs := cs.set o d) (vs := vs.set o u) ⟨by simpa using h.1, fun i d' v' hd hv => ?_⟩ (o + 1) ⟨by simpa using k.1, fun i d' v' hd hv => k.2 (i + 1) d' v' (by simpa using hd) (by simpa using hv)⟩ (fun x hx => k1 x (by simp [hx]))
    rw [List.getElem?_set] at hd hv
    split at hd
    · rename_i e
      rw [if_pos e] at hv
      split at hd <;> split at hv <;> first | (cases hd; done) | (cases hv; done) | skip
      cases hd; cases hv
      exact hr
    · rename_i e
      rw [if_neg e] at hv
      exact h.2 i d' v' hd hv
theorem updV_one : ∀ (r vs : List Value) (off : Nat), (∀ u ∈ vs, u.oneCell' = true) → (∀ u ∈ r, u.oneCell' = true) → ∀ u ∈ updV vs off r, u.oneCell' = true
  | [], _, _, h, _ => h
  | v :: r, vs, off, h, k => updV_one r (vs.set off v) (off + 1) (fun u hu => by
      rcases List.mem_or_eq_of_mem_set hu with h' | h'
      · exact h u h'
      · subst h'; exact k u (by simp)) (fun u hu => k u (by simp [hu]))

/-- A row's cells, written. -/
theorem heap_setCells (b : Nat) (T : TypeId) (fr : Nat × Nat) : ∀ (us : List Value) (o : Nat) (w : World) (vs : List Value), w.heap[b]? = some (.cells vs.toArray T fr) →
    (w.setCells b o us).heap[b]? = some (.cells (updV vs o us).toArray T fr)
  | [], _, _, _, h => h
  | u :: us, o, w, vs, h => by
    refine heap_setCells b T fr us (o + 1) _ _ ?_
    simp only [World.setCell, Array.getElem?_modify, if_true, h, Option.map_some]
    simp
theorem heap_setCells_other (b k : Nat) (hk : k ≠ b) : ∀ (us : List Value) (o : Nat) (w : World), (w.setCells b o us).heap[k]? = w.heap[k]?
  | [], _, _ => rfl
  | u :: us, o, w => by
    rw [World.setCells, heap_setCells_other b k hk us (o + 1), heap_setCell_other _ _ _ _ (by simpa using hk)]
theorem size_setCells (b : Nat) : ∀ (us : List Value) (o : Nat) (w : World), (w.setCells b o us).heap.size = w.heap.size
  | [], _, _ => rfl
  | u :: us, o, w => by rw [World.setCells, size_setCells b us (o + 1)]; simp [World.setCell]
theorem below_setCells {w0 : World} {base : Prot} {b : Nat} (hb : ¬ base.S b) : ∀ (us : List Value) (o : Nat) (w : World), Kept base w0 w → Kept base w0 (w.setCells b o us)
  | [], _, _, h => h
  | u :: us, o, w, h => below_setCells hb us (o + 1) _ (h.setCell (p := ⟨b, o, none⟩) hb u)

end
end Go.Pv
