/- A part of the proof: functions of the program, walked, or what operations come to. -/
import Derived.Test.YtpedcchnhjffpaaGreatPvN1
import Derived.DataReads
import Derived.DataElems
import Derived.SizedLaws
import Derived.WideShapes
namespace Go.Pv
open Go.RowKit Go.WideShapes
/-! ### Arguments of any shape: numbers, truths, strings, and rows, structs and arrays of such -/
def lay (P : Program) : Nat → List (TypeId × Nat) → Nat → Bool
  | o, [], n => o == n
  | o, p :: l, n => p.2 == o && lay P (o + P.cellsOf p.1) l n
def goodT (P : Program) : Nat → TypeId → Bool
  | 0, _ => false
  | n + 1, t => match P.underlying t with
    | some (.int _) | some .bool | some .string => true
    | some (.slice e) => goodT P n e && decide (0 < P.cellsOf e)
    | some (.struct fs) => fs.toList.all (fun f => goodT P n f.type) && lay P 0 (fs.toList.map fun f => (f.type, f.offset)) (P.cellsOf t)
    | some (.array m e) => goodT P n e && lay P 0 ((List.range m).map fun i => (e, i * P.cellsOf e)) (P.cellsOf t)
    | _ => false
def elemOf (P : Program) (e : TypeId) (cs : List D) : D := match P.underlying e with
  | some (.struct _) | some (.array ..) => .agg cs
  | _ => cs.headD .undef
/-- Parts that stand behind each other. -/
def OkL (R : TypeId → List D → Prop) : List TypeId → List D → Prop
  | [], ds => ds = []
  | t :: ts, ds => ∃ a b, ds = a ++ b ∧ R t a ∧ OkL R ts b
def OkC (P : Program) : Nat → TypeId → List D → Prop
  | 0, _, _ => False
  | n + 1, t, ds => match P.underlying t with
    | some (.int k) => ∃ m : Int, ds = [.val (.int k m)] ∧ (Lit.int k m).wf = true
    | some .bool => ∃ b, ds = [.val (.bool b)]
    | some .string => ∃ s : List UInt8, s.length ≤ reachBytes ∧ ds = [.val (.string ⟨s.toArray⟩)]
    | some (.slice e) => ∃ g l, ds = [.slice g e l] ∧ (g = 0 ∨ (g = 1 ∧ l = [])) ∧ l.length * P.bytesOf e ≤ reachBytes ∧ ∀ x ∈ l, ∃ cs, x = elemOf P e cs ∧ OkC P n e cs
    | some (.struct fs) => OkL (OkC P n) (fs.toList.map (·.type)) ds
    | some (.array m e) => OkL (OkC P n) (List.replicate m e) ds
    | _ => False
def RepCells (P : Program) (W : World) (ds : List D) (cs : List Value) : Prop := ds.length = cs.length ∧ ∀ (i : Nat) d v, ds[i]? = some d → cs[i]? = some v → Rep P (ghOf W) d v ∧ v.oneCell' = true
theorem RepCells.append {P : Program} {W : World} {a b : List D} {x y : List Value} (h : RepCells P W a x) (k : RepCells P W b y) : RepCells P W (a ++ b) (x ++ y) := by
  refine ⟨by simp [h.1, k.1], fun i d v hd hv => ?_⟩
  by_cases hi : i < a.length
  · rw [List.getElem?_append_left hi] at hd
    rw [List.getElem?_append_left (by rw [← h.1]; exact hi)] at hv
    exact h.2 i d v hd hv
  · rw [List.getElem?_append_right (by omega)] at hd
    rw [List.getElem?_append_right (by rw [← h.1]; omega), ← h.1] at hv
    exact k.2 _ d v hd hv
theorem RepCells.one {P : Program} {W : World} {d : D} {v : Value} (h : Rep P (ghOf W) d v) (k : v.oneCell' = true) : RepCells P W [d] [v] := by
  refine ⟨rfl, fun i d' v' hd hv => ?_⟩
  match i with
  | 0 => cases hd; cases hv; exact ⟨h, k⟩
  | i + 1 => cases hd
theorem cells_elem {P : Program} {n : Nat} {e : TypeId} {cs : List D} (h : OkC P n e cs) : cellsD (elemOf P e cs) = cs := by
  cases n with
  | zero => cases h
  | succ n =>
    unfold OkC at h
    unfold elemOf
    split at h
    · rename_i hu; obtain ⟨m, rfl, _⟩ := h; rw [hu]; rfl
    · rename_i hu; obtain ⟨m, rfl⟩ := h; rw [hu]; rfl
    · rename_i hu; obtain ⟨m, _, rfl⟩ := h; rw [hu]; rfl
    · rename_i hu; obtain ⟨g, l, rfl, _⟩ := h; rw [hu]; rfl
    · rename_i hu; rw [hu]; rfl
    · rename_i hu; rw [hu]; rfl
    · cases h
section
variable {H : Type} {enc : TypeId × Value → H} {P : Program} {W : World} {held : Bool} {sp : Nat → Bool} {b0 : Nat}
abbrev small (l : List Nat) : Prop := l.all (· ≤ reachBytes) = true
theorem small_app {a b : List Nat} : small (a ++ b) ↔ small a ∧ small b := by simp [small, List.all_append]
/-- The step of the proof, of a type's parts. -/
def Opens (H : Type) (enc : TypeId × Value → H) (P : Program) (W : World) (held : Bool) (sp : Nat → Bool) (b0 : Nat) (n : Nat) (t : TypeId) : Prop :=
  ∀ (fuel : Nat) (cs : List Value) (d : DataW H) (ps : List MemPlace), DataW.trod enc P W b0 sp held fuel t cs = some (d, ps) → small (d.weights P t) → ∃ ds, RepCells P W ds cs ∧ OkC P n t ds
theorem parts_ok {n fuel : Nat} {cs : List Value} : ∀ (L : List (TypeId × Nat)) (o : Nat) (xs : List (DataW H × List MemPlace)), (∀ p ∈ L, Opens H enc P W held sp b0 n p.1) → lay P o L cs.length = true →
    L.mapM (fun p => DataW.trod enc P W b0 sp held fuel p.1 ((cs.drop p.2).take (P.cellsOf p.1))) = some xs → small (DataW.weightsEach P (L.map (·.1)) (xs.map (·.1))) → ∃ ds, RepCells P W ds (cs.drop o) ∧ OkL (OkC P n) (L.map (·.1)) ds
  | [], o, xs, _, hl, _, _ => by
    simp only [lay, beq_iff_eq] at hl
    subst hl
    exact ⟨[], ⟨by simp, fun i d v hd => by cases hd⟩, rfl⟩
  | p :: L, o, xs, hI, hl, hx, hw => by
    simp only [lay, Bool.and_eq_true, beq_iff_eq] at hl
    obtain ⟨rfl, hl⟩ := hl
    rw [List.mapM_cons] at hx
    obtain ⟨x, hx1, hx⟩ := Option.bind_eq_some_iff.1 hx
    obtain ⟨ys, hx2, hx⟩ := Option.bind_eq_some_iff.1 hx
    cases hx
    simp only [List.map_cons, DataW.weightsEach] at hw
    rw [small_app] at hw
    obtain ⟨a, ha, oa⟩ := hI p (by simp) fuel _ x.1 x.2 hx1 hw.1
    obtain ⟨b, hb, ob⟩ := parts_ok L (p.2 + P.cellsOf p.1) ys (fun q hq => hI q (by simp [hq])) hl hx2 hw.2
    have hsp : cs.drop p.2 = (cs.drop p.2).take (P.cellsOf p.1) ++ cs.drop (p.2 + P.cellsOf p.1) := by
      rw [← List.drop_drop]; exact (List.take_append_drop _ _).symm
    rw [hsp]
    exact ⟨a ++ b, ha.append hb, a, b, rfl, oa, ob⟩
theorem weights_rep {e : TypeId} : ∀ (m : Nat) (xs : List (DataW H)), xs.length = m → DataW.weightsEach P (List.replicate m e) xs = DataW.weightsAll P e xs
  | 0, [], _ => rfl
  | m + 1, x :: xs, h => by
    rw [List.replicate_succ]
    simp only [DataW.weightsEach, DataW.weightsAll]
    rw [weights_rep m xs (by simpa using h)]
  | 0, _ :: _, h => by simp at h
  | _ + 1, [], h => by simp at h
theorem weights_in {e : TypeId} : ∀ (xs : List (DataW H)), small (DataW.weightsAll P e xs) → ∀ x ∈ xs, small (x.weights P e)
  | [], _, _, h => by cases h
  | y :: ys, hw, x, h => by
    simp only [DataW.weightsAll] at hw
    rw [small_app] at hw
    rcases List.mem_cons.1 h with rfl | h
    · exact hw.1
    · exact weights_in ys hw.2 x h
theorem map_mapM {α β γ : Type} (f : α → β) (g : β → Option γ) : ∀ (l : List α), (l.map f).mapM g = l.mapM fun a => g (f a)
  | [] => rfl
  | a :: l => by rw [List.map_cons, List.mapM_cons, List.mapM_cons, map_mapM f g l]
theorem cells_get {a : Addr} {m : Nat} {cs : List Value} (h : W.cells? b0 a m = some cs) : b0 ≤ a.block ∧ cs.length = m ∧ ∀ i, i < m → W.cell? (a.add i) = cs[i]? := by
  unfold World.cells? at h
  split at h
  · rename_i hb
    have hl := mapM_some_length h
    refine ⟨hb, by simpa using hl, fun i hi => ?_⟩
    exact mapM_some_get h i i (by rw [List.getElem?_range hi])
  · cases h
theorem opens : ∀ (n : Nat) (t : TypeId), goodT P n t = true → Opens H enc P W held sp b0 n t
  | 0, _, h => by cases h
  | n + 1, t, hg => by
    intro fuel cs d ps hf hw
    cases fuel with
    | zero => cases hf
    | succ fuel =>
      unfold goodT at hg
      unfold OkC
      unfold DataW.trod at hf
      split at hg
      · rename_i k hu
        simp only [hu] at hf ⊢
        rcases cs with _ | ⟨v, _ | ⟨v2, cs⟩⟩
        · cases hf
        · cases v <;> try (cases hf; done)
          rename_i k' m
          simp only at hf
          split at hf
          · rename_i q
            obtain ⟨rfl, hq⟩ := q
            exact ⟨[.val (.int k' m)], .one (.val _) rfl, m, rfl, hq⟩
          · cases hf
        · cases v <;> first | (cases hf; done) | (simp at hf; done) | skip
      · rename_i hu
        simp only [hu] at hf ⊢
        rcases cs with _ | ⟨v, _ | ⟨v2, cs⟩⟩
        · cases hf
        · cases v <;> try (cases hf; done)
          rename_i b
          exact ⟨[.val (.bool b)], .one (.val _) rfl, b, rfl⟩
        · cases v <;> first | (cases hf; done) | (simp at hf; done) | skip
      · rename_i hu
        simp only [hu] at hf ⊢
        rcases cs with _ | ⟨v, _ | ⟨v2, cs⟩⟩
        · cases hf
        · cases v <;> try (cases hf; done)
          rename_i s
          simp only at hf
          split at hf
          · cases hf
            simp only [DataW.weights, small, List.all_cons, List.all_nil, Bool.and_true, decide_eq_true_eq] at hw
            exact ⟨[.val (.string s)], .one (.val _) rfl, s.data.toList, hw, by simp⟩
          · cases hf
        · cases v <;> first | (cases hf; done) | (simp at hf; done) | skip
      · rename_i e hu
        simp only [Bool.and_eq_true, decide_eq_true_eq] at hg
        obtain ⟨hg, hpos⟩ := hg
        simp only [hu] at hf ⊢
        rcases cs with _ | ⟨v, _ | ⟨v2, cs⟩⟩
        · cases hf
        · cases v <;> try (cases hf; done)
          rename_i a len cap
          cases a with
          | none =>
            rcases len with _ | len
            · rcases cap with _ | cap
              · exact ⟨[.slice 1 e []], .one (.nil e) rfl, 1, [], rfl, .inr ⟨rfl, rfl⟩, by simp, fun x hx => by cases hx⟩
              · cases hf
            · cases hf
          | some a =>
            simp only at hf
            split at hf
            · rename_i q
              obtain ⟨q1, q2, q3⟩ := q
              obtain ⟨elems, hel, hf⟩ := Option.bind_eq_some_iff.1 hf
              obtain ⟨rest, hrest, hf⟩ := Option.map_eq_some_iff.1 hf
              cases hf
              simp only [DataW.weights, hu] at hw
              rw [← List.cons_append, small_app] at hw
              have hw1 := hw.1
              simp only [small, List.all_cons, Bool.and_eq_true, decide_eq_true_eq] at hw1
              have hlen : elems.length = len := by simpa using mapM_some_length hel
              have hE : ∀ i, i < len → ∃ ds cs, W.cells? b0 (a.add (i * P.cellsOf e)) (P.cellsOf e) = some cs ∧ RepCells P W ds cs ∧ OkC P n e ds := fun i hi => by
                have h1 := mapM_some_get hel i i (by rw [List.getElem?_range hi])
                have h2 : elems[i]? = some elems[i] := List.getElem?_eq_getElem _
                rw [h2] at h1
                obtain ⟨cs, hc1, hc2⟩ := Option.bind_eq_some_iff.1 h1
                have hin : small (elems[i].1.weights P e) := weights_in _ hw1.2 _ (List.mem_map.2 ⟨elems[i], List.getElem_mem _, rfl⟩)
                obtain ⟨ds, k1, k2⟩ := opens n e hg fuel cs elems[i].1 elems[i].2 hc2 hin
                exact ⟨ds, cs, hc1, k1, k2⟩
              let F : Nat → List D := fun i => if hi : i < len then Classical.choose (hE i hi) else []
              have hF : ∀ i, i < len → ∃ cs, W.cells? b0 (a.add (i * P.cellsOf e)) (P.cellsOf e) = some cs ∧ RepCells P W (F i) cs ∧ OkC P n e (F i) := fun i hi => by
                have := Classical.choose_spec (hE i hi)
                simp only [F, dif_pos hi]
                exact this
              have hsz : P.cellsOf e = szOf P e := cellsOf_sz e
              have hl : ∀ x ∈ (List.range len).map fun i => elemOf P e (F i), (cellsD x).length = szOf P e := fun x hx => by
                obtain ⟨i, hi, rfl⟩ := List.mem_map.1 hx
                obtain ⟨cs, h1, h2, h3⟩ := hF i (List.mem_range.1 hi)
                rw [cells_elem h3, h2.1, (cells_get h1).2.1, hsz]
              have hat : ∀ (j : Nat) x, (flat ((List.range len).map fun i => elemOf P e (F i)))[j]? = some x → ∃ v, W.cell? (a.add j) = some v ∧ Rep P (ghOf W) x v ∧ v.oneCell' = true := fun j x hx => by
                have hjl := (List.getElem?_eq_some_iff.1 hx).1
                rw [flat_length hl, List.length_map, List.length_range] at hjl
                have hz : 0 < szOf P e := by omega
                have hi : j / szOf P e < len := (Nat.div_lt_iff_lt_mul hz).2 hjl
                have hr : j % szOf P e < szOf P e := Nat.mod_lt _ hz
                have hj : j / szOf P e * szOf P e + j % szOf P e = j := by rw [Nat.mul_comm]; exact Nat.div_add_mod j _
                obtain ⟨cs, h1, h2, h3⟩ := hF _ hi
                have hg2 := flat_get hl (j / szOf P e) (j % szOf P e) (elemOf P e (F (j / szOf P e))) (by rw [List.getElem?_map, List.getElem?_range hi]; rfl) hr
                rw [hj, cells_elem h3] at hg2
                rw [hg2] at hx
                obtain ⟨k1, k2, k3⟩ := cells_get h1
                have hc := k3 (j % szOf P e) (by omega)
                rw [Addr.add_add, hsz, hj] at hc
                have hlt : j % szOf P e < cs.length := by omega
                have hcv : cs[j % szOf P e]? = some cs[j % szOf P e] := List.getElem?_eq_getElem hlt
                rw [hcv] at hc
                exact ⟨_, hc, h2.2 _ _ _ hx hcv⟩
              refine ⟨[.slice 0 e ((List.range len).map fun i => elemOf P e (F i))], .one ?_ rfl, 0, _, rfl, .inl rfl, ?_, fun x hx => ?_⟩
              · have hR := Rep.slice (P := P) (Γ := ghOf W) 0 e ((List.range len).map fun i => elemOf P e (F i)) (some a) a cap (fun j => (W.cell? (a.add j)).getD undef) (by decide) (fun h => absurd h (by decide)) (fun h => absurd h (by decide)) (by simpa using q2) q3 (.inr rfl) hl
                  (fun j x hx => by obtain ⟨v, h1, h2, h3⟩ := hat j x hx; rw [h1]; exact ⟨h1, h3⟩)
                  (fun j x hx => by obtain ⟨v, h1, h2, h3⟩ := hat j x hx; rw [h1]; exact h2)
                rw [List.length_map, List.length_range] at hR
                exact hR
              · have h5 := hw1.1
                simp only [List.length_map, List.length_range] at h5 ⊢
                rw [hlen] at h5
                exact Nat.le_trans (Nat.mul_le_mul_right _ (by omega)) h5
              · obtain ⟨i, hi, rfl⟩ := List.mem_map.1 hx
                obtain ⟨cs, h1, h2, h3⟩ := hF i (List.mem_range.1 hi)
                exact ⟨F i, rfl, h3⟩
            · cases hf
        · cases v <;> first | (cases hf; done) | (simp at hf; done) | skip
      · rename_i fs hu
        simp only [Bool.and_eq_true] at hg
        simp only [hu] at hf ⊢
        split at hf
        · rename_i hlc
          obtain ⟨xs, hx, hf⟩ := Option.map_eq_some_iff.1 hf
          cases hf
          simp only [DataW.weights, hu] at hw
          have := parts_ok (cs := cs) (fuel := fuel) (fs.toList.map fun f => (f.type, f.offset)) 0 xs (fun p hp => by
            obtain ⟨f, hf, rfl⟩ := List.mem_map.1 hp
            exact opens n f.type (List.all_eq_true.1 hg.1 f hf)) (by rw [hlc]; exact hg.2) (by rw [map_mapM]; exact hx) (by rw [List.map_map]; exact hw)
          rw [List.map_map] at this
          exact this
        · cases hf
      · rename_i m e hu
        simp only [Bool.and_eq_true] at hg
        simp only [hu] at hf ⊢
        split at hf
        · rename_i hlc
          obtain ⟨xs, hx, hf⟩ := Option.map_eq_some_iff.1 hf
          cases hf
          simp only [DataW.weights, hu] at hw
          have hrep : ((List.range m).map fun i => (e, i * P.cellsOf e)).map (·.1) = List.replicate m e := by
            rw [List.map_map]
            apply List.ext_getElem
            · simp
            · intro i h1 h2; simp
          have := parts_ok (cs := cs) (fuel := fuel) ((List.range m).map fun i => (e, i * P.cellsOf e)) 0 xs (fun p hp => by
            obtain ⟨i, _, rfl⟩ := List.mem_map.1 hp
            exact opens n e hg.1) (by rw [hlc]; exact hg.2) (by rw [map_mapM]; exact hx) (by
              rw [hrep, weights_rep m _ (by rw [List.length_map]; simpa using mapM_some_length hx)]
              exact hw)
          rw [hrep] at this
          exact this
        · cases hf
      · cases hg
/-- An argument, opened. -/
theorem arg_in {n : Nat} {t : TypeId} {v : Value} {d : DataW H} {ps : List MemPlace} (hg : goodT P n t = true) {ts : List TypeId} {ds : List (DataW H)} {j : Nat} (hsz : (DataW.weightsEach P ts ds).all (· ≤ reachBytes) = true) (hj : ts[j]? = some t) (hd : ds[j]? = some d)
    (h : DataW.Trod enc P W b0 sp held t v d ps) : ∃ cs, RepCells P W cs v.cells.toList ∧ OkC P n t cs := by
  obtain ⟨fuel, hf⟩ := h
  refine opens n t hg fuel _ d ps hf ?_
  refine List.all_eq_true.2 fun x hx => ?_
  exact List.all_eq_true.1 hsz x (DataW.weights_mem_each hj hd x hx)
end
/-- An opened argument stands for the value. -/
theorem arg_rep {P : Program} {W w : World} {r : Go.Reach} {base n : Nat} {t : TypeId} {v : Value} {cs : List D} (hv : Value.okWide P w r base t v) (hr : RepCells P W cs v.cells.toList) (ho : OkC P n t cs) : Rep P (ghOf W) (elemOf P t cs) v := by
  have agg : ∀ l : Array Value, v = .agg l → Rep P (ghOf W) (.agg cs) v := fun l e => by
    subst e
    have hr : RepCells P W cs l.toList := hr
    have := Rep.agg (P := P) (Γ := ghOf W) cs l.toList (by simpa using hr.1) (fun i d v hd hv => (hr.2 i d v hd hv).1)
    simpa using this
  have one : v.cells = #[v] → ∀ d, cs = [d] → Rep P (ghOf W) d v := fun hc d hd => by
    subst hd
    rw [hc] at hr
    exact (hr.2 0 d v rfl rfl).1
  cases n with
  | zero => cases ho
  | succ n =>
    unfold OkC at ho
    unfold elemOf
    split at ho
    · rename_i k hu
      obtain ⟨m, rfl, _⟩ := ho
      obtain ⟨x, rfl⟩ := okWide_int hu hv
      rw [hu]
      exact one rfl _ rfl
    · rename_i hu
      obtain ⟨m, rfl⟩ := ho
      obtain ⟨x, rfl⟩ := okWide_bool hu hv
      rw [hu]
      exact one rfl _ rfl
    · rename_i hu
      obtain ⟨m, _, rfl⟩ := ho
      obtain ⟨x, rfl⟩ := okWide_string hu hv
      rw [hu]
      exact one rfl _ rfl
    · rename_i e hu
      obtain ⟨g, l, rfl, _⟩ := ho
      obtain ⟨a, b, c, rfl⟩ := okWide_slice hu hv
      rw [hu]
      exact one rfl _ rfl
    · rename_i fs hu
      rw [hu]
      unfold Value.okWide at hv
      rw [hu] at hv
      obtain ⟨l, rfl, _⟩ := hv
      exact agg l rfl
    · rename_i m e hu
      rw [hu]
      unfold Value.okWide at hv
      rw [hu] at hv
      obtain ⟨l, rfl, _⟩ := hv
      exact agg l rfl
    · cases ho
theorem int_of {P : Program} {n : Nat} {t : TypeId} {k : IntKind} {cs : List D} (hu : P.underlying t = some (.int k)) (h : OkC P (n + 1) t cs) : ∃ m : Int, cs = [.val (.int k m)] := by
  unfold OkC at h; rw [hu] at h; exact h.imp fun m q => q.1
theorem bool_of {P : Program} {n : Nat} {t : TypeId} {cs : List D} (hu : P.underlying t = some .bool) (h : OkC P (n + 1) t cs) : ∃ b, cs = [.val (.bool b)] := by
  unfold OkC at h; rw [hu] at h; exact h
theorem str_of {P : Program} {n : Nat} {t : TypeId} {cs : List D} (hu : P.underlying t = some .string) (h : OkC P (n + 1) t cs) : ∃ s : By, s.length ≤ 140737488351232 ∧ cs = [sD s] := by
  unfold OkC at h; rw [hu] at h
  exact h
theorem strs3_of {P : Program} {n : Nat} {t e : TypeId} {cs : List D} (hu : P.underlying t = some (.array 3 e)) (he : P.underlying e = some .string) (h : OkC P (n + 2) t cs) : ∃ a b c : By, cs = [sD a, sD b, sD c] ∧ a.length ≤ 140737488351232 ∧ b.length ≤ 140737488351232 ∧ c.length ≤ 140737488351232 := by
  unfold OkC at h; rw [hu] at h
  obtain ⟨x, r, rfl, h1, y, r2, rfl, h2, z, r3, rfl, h3, rfl⟩ := h
  obtain ⟨a, ha, rfl⟩ := str_of he h1
  obtain ⟨b, hb, rfl⟩ := str_of he h2
  obtain ⟨c, hc, rfl⟩ := str_of he h3
  exact ⟨a, b, c, rfl, ha, hb, hc⟩
theorem list_of {α : Type} {l : List D} {p : α → D → Prop} (h : ∀ x ∈ l, ∃ a, p a x) : ∃ as : List α, as.length = l.length ∧ ∀ (i : Nat) a x, as[i]? = some a → l[i]? = some x → p a x := by
  induction l with
  | nil => exact ⟨[], rfl, fun i a x ha => by cases ha⟩
  | cons y l ih =>
    obtain ⟨a, ha⟩ := h y (by simp)
    obtain ⟨as, h1, h2⟩ := ih fun x hx => h x (by simp [hx])
    refine ⟨a :: as, by simp [h1], fun i b x hb hx => ?_⟩
    cases i with
    | zero => cases hb; cases hx; exact ha
    | succ i => exact h2 i b x hb hx
theorem map_of {α : Type} {l : List D} {f : α → D} {q : α → Prop} (h : ∀ x ∈ l, ∃ a, x = f a ∧ q a) : ∃ as : List α, l = as.map f ∧ ∀ a ∈ as, q a := by
  induction l with
  | nil => exact ⟨[], rfl, fun a ha => by cases ha⟩
  | cons y l ih =>
    obtain ⟨a, ha, hq⟩ := h y (by simp)
    obtain ⟨as, h1, h2⟩ := ih fun x hx => h x (by simp [hx])
    exact ⟨a :: as, by rw [List.map_cons, ← ha, ← h1], fun b hb => by
      rcases List.mem_cons.1 hb with rfl | hb
      · exact hq
      · exact h2 b hb⟩
/-- A row of anything. -/
theorem row_of {P : Program} {n : Nat} {t e : TypeId} {cs : List D} (hu : P.underlying t = some (.slice e)) (h : OkC P (n + 1) t cs) : ∃ g l, cs = [.slice g e l] ∧ (g = 0 ∨ (g = 1 ∧ l = [])) ∧ l.length * P.bytesOf e ≤ reachBytes ∧ ∀ x ∈ l, ∃ cs, x = elemOf P e cs ∧ OkC P n e cs := by
  unfold OkC at h; rw [hu] at h; exact h
theorem strs_of {P : Program} {n : Nat} {t e : TypeId} {cs : List D} (hu : P.underlying t = some (.slice e)) (he : P.underlying e = some .string) (hb : 1 ≤ P.bytesOf e) (h : OkC P (n + 2) t cs) :
    ∃ (g : Nat) (l : List By), cs = [.slice g e (l.map sD)] ∧ (g = 0 ∨ (g = 1 ∧ l = [])) ∧ l.length ≤ 140737488351232 ∧ ∀ s ∈ l, s.length ≤ 140737488351232 := by
  obtain ⟨g, l, rfl, h1, h2, h3⟩ := row_of hu h
  obtain ⟨as, rfl, h5⟩ := map_of (f := sD) (q := fun s : By => s.length ≤ 140737488351232) (l := l) fun x hx => by
    obtain ⟨cs, rfl, hc⟩ := h3 x hx
    obtain ⟨s, hs, rfl⟩ := str_of he hc
    exact ⟨s, by unfold elemOf; rw [he]; rfl, hs⟩
  refine ⟨g, as, rfl, ?_, ?_, h5⟩
  · rcases h1 with h1 | ⟨h1, h4⟩
    · exact .inl h1
    · exact .inr ⟨h1, by simpa using h4⟩
  · rw [List.length_map] at h2
    have : as.length * 1 ≤ as.length * P.bytesOf e := Nat.mul_le_mul_left _ hb
    have hr : reachBytes = 140737488351232 := rfl
    omega
end Go.Pv
