/- A part of the proof: functions of the program, walked, or what operations come to. -/
import Derived.Test.YtpedcchnhjffpaaGreatPvN1
/-! ### Two slices that grow beside each other -/
namespace Go.Pv
theorem NotIt.other {d : D} {e : TypeId} {l : List D} {H : Heap} {j : Nat} (h : Grow H d e l) (hj : H.nx ≤ j) : NotIt d j := by
  rcases h with ⟨_, h⟩ | ⟨i, h1, h2, h3⟩
  · intro e o n q; rw [h] at q; cases q
  · intro e o n q; rw [h2] at q; cases q; omega
theorem Grow.putO {H : Heap} {d : D} {e : TypeId} {l : List D} (h : Grow H d e l) (j : Nat) (o : Option PObj) (hn : NotIt d j) : Grow (H.put j o) d e l := by
  rcases h with h | ⟨i, h1, h2, h3, h4⟩
  · exact .inl h
  · have hij : i ≠ j := fun q => hn e 0 l.length (by rw [h2, q])
    exact .inr ⟨i, h1, h2, by rw [Heap.put_ne _ _ hij]; exact h3, h4⟩
structure Two (H : Heap) (a : D) (e : TypeId) (A : List D) (b : D) (f : TypeId) (B : List D) : Prop where
  ga : Grow H a e A
  gb : Grow H b f B
  ab : ∀ j, (∃ e o n, a = .row j e o n) → NotIt b j
theorem Two.ofA {H : Heap} {a : D} {e f : TypeId} {A : List D} (h : Grow H a e A) : Two H a e A (.slice 1 0 []) f [] :=
  ⟨h, Grow.nil _ _, fun j _ e o n q => by cases q⟩
theorem Two.new {H : Heap} {a b : D} {e f : TypeId} {A B : List D} (h : Two H a e A b f B) (o : PObj) : Two (H.new o) a e A b f B :=
  ⟨h.ga.new o, h.gb.new o, h.ab⟩
theorem Two.put {H : Heap} {a b : D} {e f : TypeId} {A B : List D} (h : Two H a e A b f B) (j : Nat) (o : Option PObj) (h1 : NotIt a j) (h2 : NotIt b j) : Two (H.put j o) a e A b f B :=
  ⟨h.ga.putO j o h1, h.gb.putO j o h2, h.ab⟩
/-- A box is made, and written to. -/
theorem Two.boxed {H : Heap} {a b : D} {e f : TypeId} {A B : List D} (h : Two H a e A b f B) (o p : PObj) : Two ((H.new o).put H.nx (some p)) a e A b f B :=
  (h.new o).put _ _ (NotIt.other h.ga (Nat.le_refl _)) (NotIt.other h.gb (Nat.le_refl _))
theorem Two.ba {H : Heap} {a b : D} {e f : TypeId} {A B : List D} (h : Two H a e A b f B) : ∀ j, (∃ e o n, b = .row j e o n) → NotIt a j := by
  rintro j ⟨e1, o1, n1, q1⟩ e2 o2 n2 q2
  exact h.ab j ⟨e2, o2, n2, q2⟩ e1 o1 n1 q1
theorem Grow.sub {H H' : Heap} {d c c' : D} {e : TypeId} {l : List D} (h : Grow H d e l) (hn : H.nx ≤ H'.nx) (hd : ∀ j, (∃ e o n, d = .row j e o n) → NotIt c j)
    (hf : ∀ j, j < H.nx → NotIt c j → H'.get j = H.get j ∧ NotIt c' j) : Grow H' d e l ∧ ∀ j, (∃ e o n, d = .row j e o n) → NotIt c' j := by
  rcases h with h | ⟨i, h1, h2, h3, h4⟩
  · refine ⟨.inl h, ?_⟩
    rintro j ⟨e, o, n, q⟩
    rw [h.2] at q; cases q
  · obtain ⟨k1, k2⟩ := hf i h1 (hd i ⟨_, _, _, h2⟩)
    refine ⟨.inr ⟨i, by omega, h2, by rw [k1]; exact h3, h4⟩, ?_⟩
    rintro j ⟨e, o, n, q⟩
    rw [h2] at q; cases q; exact k2
/-- The second one has grown. -/
theorem Two.growB {H H' : Heap} {a b b' : D} {e f : TypeId} {A B B' : List D} (h : Two H a e A b f B) (hG : Grow H' b' f B') (hn : H.nx ≤ H'.nx) (hf : ∀ j, j < H.nx → NotIt b j → H'.get j = H.get j ∧ NotIt b' j) : Two H' a e A b' f B' := by
  obtain ⟨k1, k2⟩ := h.ga.sub hn h.ab hf
  exact ⟨k1, hG, k2⟩
/-- The first one has grown. -/
theorem Two.growA {H H' : Heap} {a a' b : D} {e f : TypeId} {A A' B : List D} (h : Two H a e A b f B) (hG : Grow H' a' e A') (hn : H.nx ≤ H'.nx) (hf : ∀ j, j < H.nx → NotIt a j → H'.get j = H.get j ∧ NotIt a' j) : Two H' a' e A' b f B := by
  obtain ⟨k1, k2⟩ := h.gb.sub hn h.ba hf
  refine ⟨hG, k1, ?_⟩
  rintro j ⟨e1, o1, n1, q1⟩ e2 o2 n2 q2
  exact k2 j ⟨e2, o2, n2, q2⟩ e1 o1 n1 q1
/-- The second one grows by one. -/
theorem oK_grow2 {H : Heap} {a b x : D} {e f n : Nat} {A B : List D} {K : D × Heap → Prop} (h : Two H a e A b f B) (hb : (B.length + 1) * n ≤ 140737488355328)
    (hk : ∀ d' H', Two H' a e A d' f (B ++ [x]) → H.nx ≤ H'.nx → H'.G = H.G → K (d', H')) : oK (appK f n b (some [x]) (H.new (.row f [x]))) K :=
  oK_grow h.gb hb fun d' H' hG hn hg hf => hk d' H' (h.growB hG (by omega) hf) (by omega) hg
/-- The first one grows by one. -/
theorem oK_grow1 {H : Heap} {a b x : D} {e f n : Nat} {A B : List D} {K : D × Heap → Prop} (h : Two H a e A b f B) (hb : (A.length + 1) * n ≤ 140737488355328)
    (hk : ∀ d' H', Two H' d' e (A ++ [x]) b f B → H.nx ≤ H'.nx → H'.G = H.G → K (d', H')) : oK (appK e n a (some [x]) (H.new (.row e [x]))) K :=
  oK_grow h.ga hb fun d' H' hG hn hg hf => hk d' H' (h.growA hG (by omega) hf) (by omega) hg
/-! What is told for good as it stands. -/
theorem mapO_id {f : D → Option D} : ∀ {l : List D}, (∀ x ∈ l, f x = some x) → mapO f l = some l
  | [], _ => rfl
  | x :: l, h => by
    rw [mapO, h x (by simp)]
    simp only
    rw [mapO_id (fun y hy => h y (by simp [hy]))]
theorem fzi_val {P : Program} (n : Nat) (H : Heap) (v : Value) : fz P (n + 1) H (.val v) = some (.val v) := rfl
theorem fzi_slice {P : Program} {n : Nat} {H : Heap} {g e : Nat} {l : List D} (h : ∀ x ∈ l, fz P n H x = some x) : fz P (n + 1) H (.slice g e l) = some (.slice g e l) := by
  rw [fz]; simp only [mapO_id h]
theorem fzi_agg {P : Program} {n : Nat} {H : Heap} {l : List D} (h : ∀ x ∈ l, fz P n H x = some x) : fz P (n + 1) H (.agg l) = some (.agg l) := by
  rw [fz]; simp only [mapO_id h]
theorem fzi_tup {P : Program} {n : Nat} {H : Heap} {l : List D} (h : ∀ x ∈ l, fz P n H x = some x) : fz P (n + 1) H (.tup l) = some (.tup l) := by
  rw [fz]; simp only [mapO_id h]
theorem fzi_map {P : Program} {α : Type} {f : α → D} {n : Nat} {H : Heap} (h : ∀ a, fz P n H (f a) = some (f a)) (l : List α) : mapO (fz P n H) (l.map f) = some (l.map f) :=
  mapO_id fun x hx => by obtain ⟨a, _, rfl⟩ := List.mem_map.1 hx; exact h a
theorem fz_tup2 {P : Program} {n : Nat} {H : Heap} {d d' : D} {v : Value} (h : fz P (n + 1) H d = some d') : fz P (n + 2) H (.tup [d, .val v]) = some (.tup [d', .val v]) := by
  rw [fz]
  simp only [mapO, h]
  rfl
theorem frD_at' (e : Nat) {α : Type} (f : α → D) (L : List α) : ∃ g e', frD e (L.map f) = .slice g e' (L.map f) ∧ (e' = e ∨ L = []) := by
  unfold frD
  by_cases h : L = []
  · subst h; exact ⟨1, 0, rfl, .inr rfl⟩
  · rw [if_neg (by simpa using h)]; exact ⟨0, e, rfl, .inl rfl⟩
end Go.Pv
/-! ### Sorting by insertion: plain laws -/
namespace Go.Pv
/-- Rising by a comparison. -/
def Rise {α : Type} (c : α → α → Int) (l : List α) : Prop := l.Pairwise fun x y => ¬ c y x < 0
/-- An element that is less than all of B, and not less than the last of A, goes between. -/
theorem rise_ins {α : Type} {c : α → α → Int} (hanti : ∀ x y, c x y < 0 → ¬ c y x < 0) (htr : ∀ x y z, ¬ c x y < 0 → ¬ c y z < 0 → ¬ c x z < 0) {A B : List α} {x : α}
    (h : Rise c (A ++ B)) (hB : ∀ b ∈ B, c x b < 0) (hA : A = [] ∨ ∃ A' y, A = A' ++ [y] ∧ ¬ c x y < 0) : Rise c (A ++ x :: B) := by
  unfold Rise at *
  rw [List.pairwise_append] at h ⊢
  obtain ⟨h1, h2, h3⟩ := h
  refine ⟨h1, List.pairwise_cons.2 ⟨fun b hb => hanti x b (hB b hb), h2⟩, fun a ha b hb => ?_⟩
  rcases List.mem_cons.1 hb with rfl | hb
  · rcases hA with rfl | ⟨A', y, rfl, hy⟩
    · cases ha
    · rcases List.mem_append.1 ha with ha | ha
      · rw [List.pairwise_append] at h1
        exact htr _ y _ hy (h1.2.2 a ha y (by simp))
      · simp at ha; subst ha; exact hy
  · exact h3 a ha b hb
/-- Two rows that are in order and hold the same are the same, where no two are alike. -/
theorem rise_ext {α : Type} {c : α → α → Int} (hant : ∀ x y, ¬ c x y < 0 → ¬ c y x < 0 → x = y) : ∀ {l m : List α}, Rise c l → Rise c m → l.Perm m → l = m
  | [], m, _, _, hp => (List.nil_perm.1 hp).symm
  | x :: l, [], _, _, hp => absurd (List.perm_nil.1 hp) (by simp)
  | x :: l, y :: m, hl, hm, hp => by
    have e : x = y := by
      have hx : x ∈ y :: m := hp.mem_iff.1 (by simp)
      have hy : y ∈ x :: l := hp.mem_iff.2 (by simp)
      rcases List.mem_cons.1 hx with h | h
      · exact h
      · rcases List.mem_cons.1 hy with h2 | h2
        · exact h2.symm
        · exact hant _ _ ((List.pairwise_cons.1 hm).1 x h) ((List.pairwise_cons.1 hl).1 y h2)
    subst e
    rw [rise_ext hant (List.pairwise_cons.1 hl).2 (List.pairwise_cons.1 hm).2 ((List.perm_cons x).1 hp)]
theorem rise_map {α β : Type} (f : α → β) (c : β → β → Int) {l : List α} (h : Rise (fun x y => c (f x) (f y)) l) : Rise c (l.map f) := by
  unfold Rise at *
  rw [List.pairwise_map]
  exact h
end Go.Pv
/-! ### One object alone is told for good -/
namespace Go.Pv
open Go.RowKit
theorem Rel.freezeOne {P : Program} {base : Prot} {w0 : World} {Γ : Gh} {H : Heap} {w : World} (h : Rel P base w0 Γ H w) (i : Nat) : ∃ Γ', Γ.le Γ' ∧ Rel P base w0 Γ' (H.put i none) w ∧
    (∀ e l x, H.get i = some (.row e l) → Γ.g i = some x → x.e = e ∧ x.cap ≤ maxLen ∧ l.length ≤ x.cap ∧ (∀ d ∈ l, (cellsD d).length = szOf P e) ∧ ∃ vs : Nat → Value, ∀ (j : Nat) d, (flat l)[j]? = some d → Γ'.K ((⟨x.b, x.o, none⟩ : Addr).add j) (vs j) ∧ Rep P Γ' d (vs j)) ∧
    (∀ cs x, H.get i = some (.cells cs) → Γ.g i = some x → ∃ vs : Nat → Value, ∀ (j : Nat) d, cs[j]? = some d → Γ'.K ((⟨x.b, 0, none⟩ : Addr).add j) (vs j) ∧ Rep P Γ' d (vs j)) := by
  let S : Addr → Value → Prop := fun a v => ∃ o x vs T fr, H.get i = some o ∧ Γ.g i = some x ∧ a.block = x.b ∧ a.spot = none ∧ w.heap[x.b]? = some (.cells vs T fr) ∧ vs[a.off]? = some v ∧ v.oneCell' = true
  have h1 : Rel P base w0 (Γ.know S) (H.put i none) w := (h.kill i).learn S (by
    rintro ⟨b, off, spot⟩ v ⟨o, x, vs, T, fr, hi, hx, e1, e2, e3, e4, e5⟩
    simp only at e1 e2 e4
    subst e1; subst e2
    exact ⟨by rw [cell_of_row w x.b off vs T fr e3]; exact e4, e5⟩) (by
    rintro a v ⟨o, x, vs, T, fr, hi, hx, e1, _⟩ j p y hj hy q
    by_cases e : j = i
    · subst e; simp at hj
    · rw [Heap.put_ne _ _ e] at hj
      exact e (h.inj i j o p x y hi hj hx hy (by rw [← e1, q])).symm) (by
    rintro a v ⟨o, x, vs, T, fr, hi, hx, e1, _⟩ hs
    rw [e1] at hs
    exact absurd hs (h.objAt hi hx).1)
  refine ⟨Γ.know S, Γ.know_le S, h1, ?_, ?_⟩
  · intro e l x hi hx
    obtain ⟨_, _, k1, k2, k3, k4, vs, T, fr, x3, x4, x5, x6⟩ := h.objAt hi hx
    refine ⟨k1, k2, k3, k4, fun j => vs.getD (x.o + j) undef, fun j d hj => ?_⟩
    obtain ⟨v, hv, hr, ho⟩ := x6 j d hj
    have : vs.getD (x.o + j) undef = v := by simp [hv]
    simp only [this]
    exact ⟨.inr ⟨_, x, vs, T, fr, hi, hx, by rw [Addr.add_lit], by rw [Addr.add_lit], x3, by rw [Addr.add_lit]; exact hv, ho⟩, hr.mono (Γ.know_le S)⟩
  · intro cs x hi hx
    obtain ⟨_, _, vs, T, fr, x3, x4, x5, x6⟩ := h.objAt hi hx
    refine ⟨fun j => vs.getD j undef, fun j d hj => ?_⟩
    obtain ⟨v, hv, hr, ho⟩ := x6 j d hj
    have : vs.getD j undef = v := by simp [hv]
    simp only [this]
    exact ⟨.inr ⟨_, x, vs, T, fr, hi, hx, by rw [Addr.add_lit], by rw [Addr.add_lit], x3, by rw [Addr.add_lit, Nat.zero_add]; exact hv, ho⟩, hr.mono (Γ.know_le S)⟩
theorem Rel.freezeRow {P : Program} {base : Prot} {w0 : World} {Γ : Gh} {H : Heap} {w : World} (h : Rel P base w0 Γ H w) {i e : Nat} {l : List D} (hi : H.get i = some (.row e l)) :
    ∃ Γ', Γ.le Γ' ∧ Rel P base w0 Γ' (H.put i none) w ∧ ∀ v, Rep P Γ (.row i e 0 l.length) v → Rep P Γ' (.slice (if l.length = 0 then 3 else 0) e l) v := by
  obtain ⟨Γ', h1, h2, h3, _⟩ := h.freezeOne i
  refine ⟨Γ', h1, h2, fun v hv => ?_⟩
  cases hv with
  | row _ _ _ _ x hb he hc hm =>
    obtain ⟨t1, t2, t3, t4, vs, t5⟩ := h3 e l x hi hb
    rw [Nat.zero_mul, Nat.add_zero, Nat.sub_zero]
    exact Rep.slice (P := P) (Γ := Γ') _ e l _ ⟨x.b, x.o, none⟩ x.cap vs (by split <;> omega) (by split <;> omega) (fun _ => rfl) t3 t2 (.inr rfl) t4 (fun j d hd => (t5 j d hd).1) (fun j d hd => (t5 j d hd).2)
theorem Rel.freezeBox {P : Program} {base : Prot} {w0 : World} {Γ : Gh} {H : Heap} {w : World} (h : Rel P base w0 Γ H w) {i : Nat} {cs : List D} (hi : H.get i = some (.cells cs)) :
    ∃ Γ', Γ.le Γ' ∧ Rel P base w0 Γ' (H.put i none) w ∧ ∀ off v, Rep P Γ (.ptr i off) v → Rep P Γ' (.obj cs off) v := by
  obtain ⟨Γ', h1, h2, _, h4⟩ := h.freezeOne i
  refine ⟨Γ', h1, h2, fun off v hv => ?_⟩
  cases hv with
  | ptr _ _ x hb =>
    obtain ⟨vs, t5⟩ := h4 cs x hi hb
    have : (⟨x.b, off, none⟩ : Addr) = (⟨x.b, 0, none⟩ : Addr).add off := by rw [Addr.add_lit, Nat.zero_add]
    rw [this]
    exact .obj cs off ⟨x.b, 0, none⟩ vs (fun j d hj => (t5 j d hj).1) (fun j d hj => (t5 j d hj).2)
section
variable {P : Program} {n : Nat} {c : Code} {Q : Exit → PSt → Prop} {E : Env} {H : Heap} {df : List (FuncId × List D)}
theorem env_turn {Γ : Gh} {a : Go.Act} {t : Nat} {d : D} (h : EnvRep P Γ E a.tmps) (hd : ∀ v, Rep P Γ (E.get t) v → Rep P Γ d v) : EnvRep P Γ (E.set t d) a.tmps := by
  have := setAll_rep [(t, d)] E h (fun p hp hlt => by
    simp only [List.mem_singleton] at hp
    subst hp
    exact hd _ (h.rep _ hlt))
  exact this
/-- A row is told for good. -/
theorem pwp_freezeRow (t : Nat) {i e : Nat} {l : List D} (hE : E.get t = .row i e 0 l.length) (hi : H.get i = some (.row e l)) (h : pwp P n c Q ⟨E.set t (.slice (if l.length = 0 then 3 else 0) e l), H.put i none, df⟩) : pwp P n c Q ⟨E, H, df⟩ := by
  intro base w0 Γ w a h1 h2 h3
  obtain ⟨Γ2, y1, y2, y3⟩ := h1.freezeRow hi
  have hE2 : EnvRep P Γ2 (E.set t (.slice (if l.length = 0 then 3 else 0) e l)) a.tmps := by
    have := setAll_rep [(t, .slice (if l.length = 0 then 3 else 0) e l)] E (h2.env.mono y1) (fun p hp hlt => by
      simp only [List.mem_singleton] at hp
      subst hp
      have := h2.env.rep t hlt
      rw [hE] at this
      exact y3 _ this)
    exact this
  refine Code.wp_mono ?_ (h base w0 Γ2 w a y2 ⟨hE2, h2.df.mono y1⟩ h3)
  rintro e a' w' hq
  exact hq.le y1
/-- A box is told for good. -/
theorem pwp_freezeBox (t : Nat) {i off : Nat} {cs : List D} (hE : E.get t = .ptr i off) (hi : H.get i = some (.cells cs)) (h : pwp P n c Q ⟨E.set t (.obj cs off), H.put i none, df⟩) : pwp P n c Q ⟨E, H, df⟩ := by
  intro base w0 Γ w a h1 h2 h3
  obtain ⟨Γ2, y1, y2, y3⟩ := h1.freezeBox hi
  have hE2 : EnvRep P Γ2 (E.set t (.obj cs off)) a.tmps := by
    have := setAll_rep [(t, .obj cs off)] E (h2.env.mono y1) (fun p hp hlt => by
      simp only [List.mem_singleton] at hp
      subst hp
      have := h2.env.rep t hlt
      rw [hE] at this
      exact y3 _ _ this)
    exact this
  refine Code.wp_mono ?_ (h base w0 Γ2 w a y2 ⟨hE2, h2.df.mono y1⟩ h3)
  rintro e a' w' hq
  exact hq.le y1
/-- A slice that grew is told for good: what else was in the heap stays. -/
theorem pwp_freezeG (t : Nat) {e : Nat} {l : List D} (hG : Grow H (E.get t) e l)
    (h : ∀ H', H'.nx = H.nx → H'.G = H.G → (∀ j, NotIt (E.get t) j → H'.get j = H.get j) → pwp P n c Q ⟨E.set t (frD e l), H', df⟩) : pwp P n c Q ⟨E, H, df⟩ := by
  rcases hG with ⟨rfl, q⟩ | ⟨i, h1, q, h3, h4⟩
  · have hk := h H rfl rfl (fun _ _ => rfl)
    intro base w0 Γ w a k1 k2 k3
    refine hk base w0 Γ w a k1 ⟨env_turn k2.env (fun v hv => ?_), k2.df⟩ k3
    rw [q] at hv
    exact hv
  · have hk := h (H.put i none) rfl rfl (fun j hj => Heap.put_ne _ _ (fun e2 => hj e 0 l.length (by rw [q, e2])))
    refine pwp_freezeRow t q h3 ?_
    have : (D.slice (if l.length = 0 then 3 else 0) e l) = frD e l := by
      unfold frD
      rw [if_neg h4, if_neg (fun z => h4 (List.eq_nil_of_length_eq_zero z))]
    rw [this]
    exact hk
end
/-- A slice that grows lies apart from what an other one becomes. -/
theorem Grow.beside {H H' : Heap} {d c c' : D} {e : TypeId} {l : List D} (h : Grow H d e l ∧ ∀ j, (∃ e o n, d = .row j e o n) → NotIt c j) (hn : H.nx ≤ H'.nx)
    (hf : ∀ j, j < H.nx → NotIt c j → H'.get j = H.get j ∧ NotIt c' j) : Grow H' d e l ∧ ∀ j, (∃ e o n, d = .row j e o n) → NotIt c' j := h.1.sub hn h.2 hf
theorem Grow.apartNew {H : Heap} {d : D} {e f : TypeId} {l : List D} (h : Grow H d e l) {k m o : Nat} (hk : H.nx ≤ k) : ∀ j, (∃ e o n, d = .row j e o n) → NotIt (.row k f o m) j := by
  rintro j ⟨e1, o1, n1, q⟩ e2 o2 n2 q2
  rcases h with ⟨_, h⟩ | ⟨i, h1, h2, h3⟩
  · rw [h] at q; cases q
  · rw [h2] at q; cases q; cases q2; omega
/-- What another freeze keeps. -/
theorem Grow.kept {H H' : Heap} {d c : D} {e : TypeId} {l : List D} (h : Grow H d e l) (hn : H'.nx = H.nx) (ha : ∀ j, (∃ e o n, d = .row j e o n) → NotIt c j) (hf : ∀ j, NotIt c j → H'.get j = H.get j) : Grow H' d e l := by
  rcases h with h | ⟨i, h1, h2, h3, h4⟩
  · exact .inl h
  · exact .inr ⟨i, by omega, h2, by rw [hf i (ha i ⟨_, _, _, h2⟩)]; exact h3, h4⟩
end Go.Pv
