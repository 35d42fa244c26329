/- A part of the proof: functions of the program, walked, or what operations come to. -/
import Derived.Test.YtpedcchnhjffpaaGreatPvW1
import Derived.Test.YtpedcchnhjffpaaGreatPvTwo
import Derived.Test.YtpedcchnhjffpaaGreatPvV7
import Derived.Test.YtpedcchnhjffpaaGreatPvN1
import Derived.Test.YtpedcchnhjffpaaGreatPvOrd2
import Derived.Test.YtpedcchnhjffpaaGreatPvArgs5
-- ZpvTameA ZpvDrawT
set_option maxRecDepth 100000
namespace Go.Pv
open Go.Proofs
attribute [-simp] eLen UInt8.ofNat_add




/-! ### The document's Normal -/
theorem an_inj20 : ((List.range 20).all fun a => (List.range 20).all fun b => decide (lowL (an a) = lowL (an b) ↔ an a = an b)) = true := by decide +kernel
theorem an_inj {a b : Nat} (ha : a < 20) (hb : b < 20) : lowL (an a) = lowL (an b) ↔ an a = an b :=
  of_decide_eq_true (List.all_eq_true.1 (List.all_eq_true.1 an_inj20 a (List.mem_range.2 ha)) b (List.mem_range.2 hb))
def posT (t : By) : List By → Nat
  | [] => 0
  | y :: l => if Op.bytesLess y t = true then posT t l + 1 else 0
theorem insT_eq (t : By) : ∀ L, insT t L = L.take (posT t L) ++ t :: L.drop (posT t L)
  | [] => rfl
  | y :: l => by
    unfold insT posT
    split
    · rw [insT_eq t l]; simp
    · simp
theorem posT_le (t : By) : ∀ L, posT t L ≤ L.length
  | [] => Nat.le_refl _
  | y :: l => by
    have := posT_le t l
    unfold posT
    split <;> simp <;> omega
theorem posT_lt (t : By) : ∀ (L : List By) (j : Nat) (y : By), L[j]? = some y → j < posT t L → Op.bytesLess y t = true
  | [], j, y, h, _ => by cases h
  | z :: l, 0, y, h, hj => by
    cases h
    unfold posT at hj
    split at hj
    · assumption
    · omega
  | z :: l, j + 1, y, h, hj => by
    unfold posT at hj
    split at hj
    · exact posT_lt t l j y (by simpa using h) (by omega)
    · omega
theorem posT_at (t : By) : ∀ (L : List By) (y : By), L[posT t L]? = some y → Op.bytesLess y t = false
  | [], y, h => by cases h
  | z :: l, y, h => by
    unfold posT at h
    split at h
    · exact posT_at t l y (by simpa using h)
    · rename_i q
      cases h
      simpa using q
/-- Pairs of a level so far: what is collected, by attributes' numbers. -/
structure Part (l : List (By × By)) (k : Nat) (acc : List (By × By)) (ks : List Nat) : Prop where
  ok : (l.take k).foldlM normS [] = .ok acc
  len : ks.length = k
  types : acc.map (·.1) = ks.map fun a => lowL (an a)
  few : ∀ a ∈ ks, a < 20
  keys : ∀ p ∈ acc, p.1.length ≤ 2000 ∧ p.2.length ≤ 100000
theorem Part.acc_len {l : List (By × By)} {k : Nat} {acc : List (By × By)} {ks : List Nat} (h : Part l k acc ks) : acc.length = k := by
  have := congrArg List.length h.types
  simp only [List.length_map] at this
  rw [this, h.len]
theorem Part.any {l : List (By × By)} {k : Nat} {acc : List (By × By)} {ks : List Nat} (h : Part l k acc ks) {a : Nat} (ha : a < 20) : (acc.any fun x => decide (x.1 = lowL (an a))) = ks.any fun b => decide (an b = an a) := by
  have e1 : (acc.any fun x => decide (x.1 = lowL (an a))) = (acc.map (·.1)).any fun x => decide (x = lowL (an a)) := by rw [List.any_map]; rfl
  rw [e1, h.types, List.any_map]
  rw [Bool.eq_iff_iff]
  simp only [List.any_eq_true, Function.comp_def, decide_eq_true_eq]
  constructor
  · rintro ⟨b, hb, e⟩; exact ⟨b, hb, (an_inj (h.few b hb) ha).1 e⟩
  · rintro ⟨b, hb, e⟩; exact ⟨b, hb, (an_inj (h.few b hb) ha).2 e⟩
theorem Part.next {l : List (By × By)} {k : Nat} {acc : List (By × By)} {ks : List Nat} (h : Part l k acc ks) {p : By × By} (hp : l[k]? = some p) (h20 : fatt p.1 < 20) {w : By} (hw : holdM (asy (fatt p.1)) p.2 = some w)
    (hn : (ks.any fun b => decide (an b = an (fatt p.1))) = false) : Part l (k + 1) (acc ++ [(lowL (an (fatt p.1)), w)]) (ks ++ [fatt p.1]) := by
  have hs : normS acc p = .ok (acc ++ [(lowL (an (fatt p.1)), w)]) := by
    unfold normS
    rw [if_pos h20, hw]
    simp only
    rw [if_neg (by rw [h.any h20, hn]; decide)]
  refine ⟨?_, by simp [h.len], by simp [h.types], fun a ha => ?_, fun q hq => ?_⟩
  · rw [foldlM_take normS [] hp, h.ok]; exact hs
  · rcases List.mem_append.1 ha with ha | ha
    · exact h.few a ha
    · simp at ha; subst ha; exact h20
  · rcases List.mem_append.1 hq with hq | hq
    · exact h.keys q hq
    · simp at hq; subst hq; exact ⟨(an_no _ h20).2, hold_len hw⟩
theorem Part.bad {l : List (By × By)} {k : Nat} {acc : List (By × By)} {ks : List Nat} (h : Part l k acc ks) {p : By × By} (hp : l[k]? = some p) {e : Int} (hs : normS acc p = .error e) : levK l = .error e := by
  unfold levK
  rw [show normM l = .error e from foldlM_err normS [] (k := k + 1) (by rw [foldlM_take normS [] hp, h.ok]; exact hs)]
theorem normS_none {acc : List (By × By)} {p : By × By} (h20 : ¬ fatt p.1 < 20) : normS acc p = .error 13 := by unfold normS; rw [if_neg h20]
theorem normS_key {acc : List (By × By)} {p : By × By} (h20 : fatt p.1 < 20) (hw : holdM (asy (fatt p.1)) p.2 = none) : normS acc p = .error 2 := by unfold normS; rw [if_pos h20, hw]
theorem normS_twice {acc : List (By × By)} {p : By × By} (h20 : fatt p.1 < 20) {w : By} (hw : holdM (asy (fatt p.1)) p.2 = some w) (hn : (acc.any fun x => decide (x.1 = lowL (an (fatt p.1)))) = true) : normS acc p = .error 2 := by
  unfold normS; rw [if_pos h20, hw]; simp only; rw [if_pos hn]
theorem NotIt.ofGet {H : Heap} {d : D} {e : TypeId} {l cs : List D} {b : Nat} (h : Grow H d e l) (hb : H.get b = some (.cells cs)) : NotIt d b := by
  rcases h with ⟨_, h⟩ | ⟨i, h1, h2, h3, _⟩
  · intro e o n q; rw [h] at q; cases q
  · intro e2 o n q
    rw [h2] at q; cases q
    rw [h3] at hb; cases hb
structure NameI (H : Heap) (d9 : D) (NL : List D) (b a : Nat) : Prop where
  g : Grow H d9 9 NL
  box : H.get b = some (.cells (cellsD (atD a)))
  lt : b < H.nx
theorem growRow {H : Heap} {d : D} {e : TypeId} {l : List D} (h : Grow H d e l) (hl : l ≠ []) : ∃ i, i < H.nx ∧ d = .row i e 0 l.length ∧ H.get i = some (.row e l) := by
  rcases h with h | ⟨i, h1, h2, h3, h4⟩
  · exact absurd h.1 hl
  · exact ⟨i, h1, h2, h3⟩
theorem any_snoc {α : Type} {q : α → Bool} {l : List α} {k : Nat} {x : α} (h : l[k]? = some x) : (l.take (k + 1)).any q = ((l.take k).any q || q x) := by
  rw [List.take_add_one, h]; simp
theorem own_grow {H : Heap} {d : D} {e : TypeId} {l : List D} (h : Own H d e l) (hl : l ≠ []) : Grow H d e l := by
  obtain ⟨i, h1, h2, h3⟩ := h
  exact .inr ⟨i, h1, h2, h3, hl⟩
attribute [local simp] findD
set_option maxHeartbeats 16000000 in
theorem rdNormal_local (g e : Nat) (n : List Lv) (he : e = 36 ∨ n = []) (hn : n.length ≤ 2000) (ho : ∀ x ∈ n, x.ok 35 ∧ LvB x.l) :
    PCalls Tryz.prog 6 [.slice g e (n.map lvD)] (noHeap noG) fun d _ => d = resD (normalM (n.map (·.l))) := by
  have hdef : normalM (n.map (·.l)) = (if bigM n = true then .error 3 else if (n.any fun x => decide (x.l.length = 0)) then .error 11 else match (n.map (·.l)).mapM levK with
    | .error e => .error e
    | .ok L => if 1024 < (joinB 44 L).length then .error 3 else .ok (joinB 44 L)) := by
    unfold normalM bigM
    simp only [List.length_map, List.any_map, Function.comp_def]
    try rfl
  have lN : (n.map lvD).length = n.length := by simp
  have gN := fun k x (h : n[k]? = some x) => (show (n.map lvD)[k]? = some (lvD x) by rw [List.getElem?_map, h]; rfl)
  have kg := Hold.mk gN
  clear gN
  obtain ⟨X, hX⟩ : ∃ X, n.map lvD = X := ⟨_, rfl⟩
  rw [hX] at lN kg ⊢
  clear hX
  obtain ⟨R, hR⟩ : ∃ R, normalM (n.map (·.l)) = R := ⟨_, rfl⟩
  rw [hR] at hdef ⊢
  have kd := Hold.mk hdef
  clear hR hdef
  refine PCalls.of_pwp Tryz.call6 Tryz.func6 rfl (by simp [Tryz.ntmps6]) ?_
  rw [Tryz.ntmps6]
  refine W2 ?_
  refine pwp_for (n.length) (fun k st => st.env.n = 169 ∧ st.df = [] ∧ st.H = noHeap noG ∧ st.env.get 0 = .slice g e X ∧ st.env.get 4 = .val (.bool ((n.take k).any fun x => decide (x.l.length = 0))) ∧ st.env.get 5 = .val (.int .i64 (k : Nat)) ∧ (Hold (∀ x ∈ n.take k, x.l.length ≤ 4)) ∧ (Hold (0 < k → n.length ≤ 12))) ⟨by first | (simp; done) | (simp [*]; done), rfl, by first | rfl | simp, by first | (simp; done) | (simp [*]; done), by first | (simp; done) | (simp [*]; done), by first | (simp; done) | (simp [*]; done), by first | done | exact ⟨by simp⟩ | simp, by first | done | exact ⟨by simp⟩ | simp⟩ ?_ ?_
  · rintro k ⟨E, Hx, df⟩ hk ⟨en, edf, eH, e0, e4, e5, eP, eP1⟩
    simp only at en edf eH e0 e4 e5
    subst edf; replace eH := eH.symm; subst eH
    have hki : (k : Int) < ((n.length : Nat) : Int) := by omega
    have hkw := wrapSucc k (by omega)
    have hz : e = 36 := by rcases he with h | h; exact h; subst h; simp at hk
    subst hz
    obtain ⟨x, hx⟩ : ∃ x, n[k]? = some x := ⟨_, List.getElem?_eq_getElem hk⟩
    have x1 := kg.out k x hx
    have x2 : X.getD k .undef = lvD x := by rw [List.getD, x1]; rfl
    have x3 := get_of x1
    have hmem := List.mem_of_getElem? hx
    have kx := Hold.mk (And.intro hx hmem)
    have hany : ((n.take (k + 1)).any fun x => decide (x.l.length = 0)) = ((n.take k).any (fun x => decide (x.l.length = 0)) || decide (x.l.length = 0)) := by
      rw [List.take_add_one, hx]; simp
    clear hx hmem
    obtain ⟨b, hb⟩ : ∃ b, ((n.take k).any fun x => decide (x.l.length = 0)) = b := ⟨_, rfl⟩
    rw [hb] at hany e4
    clear hb
    obtain ⟨b2, hb2⟩ : ∃ b, ((n.take (k + 1)).any fun x => decide (x.l.length = 0)) = b := ⟨_, rfl⟩
    rw [hb2] at hany ⊢
    clear hb2
    obtain ⟨g2, e2, l⟩ := x
    simp only [lvD] at x1 x2 x3 hany kx
    have lL : (l.map pairD).length = l.length := by simp
    generalize l.map pairD = Y at *
    have hbad : (4 < l.length ∨ 12 < n.length) → Hold (R = .error 3) := fun h => ⟨by
      have hb : bigM n = true := by
        unfold bigM
        simp only [Bool.or_eq_true, decide_eq_true_eq, List.any_eq_true]
        rcases h with h | h
        · exact .inr ⟨_, kx.out.2, h⟩
        · exact .inl h
      rw [kd.out, if_pos hb]⟩
    by_cases h4 : 4 < l.length
    · have hi : (4 : Int) < (l.length : Int) := by omega
      have hr := hbad (.inl h4)
      clear hbad hany
      refine W2 ?_
      simp [*, hr.out, resD]
    · have hi : ¬ (4 : Int) < (l.length : Int) := by omega
      by_cases h12 : 12 < n.length
      · have hi2 : (12 : Int) < (n.length : Int) := by omega
        have hr := hbad (.inr h12)
        clear hbad hany
        refine W2 ?_
        simp [*, hr.out, resD]
      · have hi2 : ¬ (12 : Int) < (n.length : Int) := by omega
        have ks : Hold (∀ y ∈ n.take (k + 1), y.l.length ≤ 4) := ⟨fun y hy => by
          rw [List.take_add_one, kx.out.1] at hy
          rcases List.mem_append.1 hy with hy | hy
          · exact eP.out y hy
          · simp at hy; subst hy; simp only; omega⟩
        clear hbad
        cases b with
        | true =>
          have hb2t : b2 = true := by rw [hany]; rfl
          clear hany
          refine W2 ?_
          simp [*]
          exact ⟨by omega⟩
        | false =>
          have hb2t : b2 = decide (l.length = 0) := by rw [hany]; simp
          clear hany
          refine W2 ?_
          simp [*]
          exact ⟨by omega⟩
  · rintro ⟨E, Hx, df⟩ ⟨en, edf, eH, e0, e4, e5, eP, eP1⟩
    simp only at en edf eH e0 e4 e5
    subst edf; replace eH := eH.symm; subst eH
    have hsm : (∀ x ∈ n, x.l.length ≤ 4) ∧ n.length ≤ 12 := by
      refine ⟨?_, ?_⟩
      · have := eP.out; rwa [List.take_length] at this
      · by_cases h0 : 0 < n.length
        · exact eP1.out h0
        · omega
    have hb : bigM n = false := by
      unfold bigM
      simp only [Bool.or_eq_false_iff, decide_eq_false_iff_not, List.any_eq_false, decide_eq_true_eq]
      exact ⟨by omega, fun x hx => by have := hsm.1 x hx; omega⟩
    rw [List.take_length] at e4
    have hdef := kd.out
    rw [hb, if_neg (by decide)] at hdef
    clear eP eP1
    cases hc : (n.any fun x => decide (x.l.length = 0)) with
    | true =>
      rw [hc] at e4 hdef
      rw [if_pos rfl] at hdef
      clear hc
      refine W2 ?_
      simp [*, resD]
    | false =>
      rw [hc] at e4 hdef
      rw [if_neg (by decide)] at hdef
      have hpos : ∀ x ∈ n, x.l ≠ [] := fun x hx q => by
        rw [List.any_eq_false] at hc
        exact hc x hx (by rw [q]; rfl)
      have kd2 := Hold.mk hdef
      clear hdef hc hb kd
      refine W2 ?_
      refine pwp_for (n.length) (fun k st => st.env.n = 169 ∧ st.df = [] ∧ st.env.get 0 = .slice g e X ∧ st.env.get 7 = .val (.int .i64 (k : Nat)) ∧ (∃ Ls, ((n.map (·.l)).take k).mapM levK = .ok Ls ∧ Ls.length = k ∧ (∀ b ∈ Ls, b.length ≤ 604004000) ∧ st.env.get 6 = sD (joinB 44 Ls))) ⟨by first | (simp; done) | (simp [*]; done), rfl, by first | (simp; done) | (simp [*]; done), by first | (simp; done) | (simp [*]; done), ?_⟩ ?_ ?_
      · exact ⟨[], by simp; rfl, rfl, by simp, by simp [joinB, en]⟩
      · rintro k ⟨E, Hx, df⟩ hk ⟨en, edf, e0, e7, eP⟩
        simp only at en edf e0 e7
        subst edf
        have hki : (k : Int) < ((n.length : Nat) : Int) := by omega
        have hkw := wrapSucc k (by omega)
        obtain ⟨Ls, hLs, hLl, hLb, e6⟩ := eP
        have hTb : (joinB 44 Ls).length ≤ 7300000000 := joinB_le 44 604004000 12 7300000000 rfl _ (by omega) hLb
        obtain ⟨x, hx⟩ : ∃ x, n[k]? = some x := ⟨_, List.getElem?_eq_getElem hk⟩
        have hz : e = 36 := by rcases he with h | h; exact h; subst h; simp at hk
        subst hz
        have x1 := kg.out k x hx
        have x2 : X.getD k .undef = lvD x := by rw [List.getD, x1]; rfl
        have x3 := get_of x1
        have hmem := List.mem_of_getElem? hx
        obtain ⟨xo, xb⟩ := ho x hmem
        have hne := hpos x hmem
        have h4 := hsm.1 x hmem
        have hxl : (n.map (·.l))[k]? = some x.l := by rw [List.getElem?_map, hx]; rfl
        have hs := mapM_take levK hxl
        rw [hLs] at hs
        have hsn : ∀ er, levK x.l = .error er → Hold (R = .error er) := fun er h => ⟨by
          rw [kd2.out, mapM_err levK (k := k + 1) (by rw [hs, h]; rfl)]⟩
        have ksn := Hold.mk (And.intro hs hsn)
        have kL := Hold.mk (And.intro hLs (And.intro hLl hLb))
        clear hx hmem hxl hs hsn hLs hLb
        obtain ⟨T, hT⟩ : ∃ T, joinB 44 Ls = T := ⟨_, rfl⟩
        rw [hT] at hTb e6
        have kT := Hold.mk hT
        clear hT
        obtain ⟨g2, e2, l⟩ := x
        simp only [lvD, Lv.ok] at x1 x2 x3 xo xb hne h4 ksn
        have hz : e2 = 35 := by rcases xo with h | h; exact h; exact absurd h hne
        subst hz
        have lL : (l.map pairD).length = l.length := by simp
        have gL := fun k x (h : l[k]? = some x) => (show (l.map pairD)[k]? = some (pairD x) by rw [List.getElem?_map, h]; rfl)
        have kl := Hold.mk gL
        clear gL xo
        obtain ⟨Y, hY⟩ : ∃ Y, l.map pairD = Y := ⟨_, rfl⟩
        rw [hY] at lL kl x1 x2 x3
        clear hY
        have kxb := Hold.mk xb
        clear xb
        refine W2 ?_
        refine pwp_for (l.length) (fun m st => st.env.n = 169 ∧ st.df = [] ∧ st.env.get 0 = .slice g 36 X ∧ st.env.get 6 = sD T ∧ st.env.get 7 = .val (.int .i64 (k : Nat)) ∧ st.env.get 10 = .val (.int .i64 (m : Nat)) ∧ (∃ acc ks, Part l m acc ks ∧ Two st.H (st.env.get 9) 9 ((ks.map an).map sD) (st.env.get 8) 9 ((sortT (acc.map textP)).map sD))) ⟨by first | (simp; done) | (simp [*]; done), rfl, by first | (simp; done) | (simp [*]; done), by first | (simp; done) | (simp [*]; done), by first | (simp; done) | (simp [*]; done), by first | (simp; done) | (simp [*]; done), ?_⟩ ?_ ?_
        · refine ⟨[], [], ⟨by simp; rfl, rfl, rfl, by simp, by simp⟩, ?_⟩
          have := Two.ofA (f := 9) (Grow.nil Hx 9)
          simpa [en, sortT] using this
        · rintro m ⟨E, Hx, df⟩ hm ⟨en, edf, e0, e6, e7, e10, eP⟩
          simp only at en edf e0 e6 e7 e10
          subst edf
          have hmi : (m : Int) < ((l.length : Nat) : Int) := by omega
          have hmw := wrapSucc m (by omega)
          obtain ⟨acc, ks, hP, hT⟩ := eP
          obtain ⟨d9, e9⟩ : ∃ d, E.get 9 = d := ⟨_, rfl⟩
          simp only [e9] at hT
          refine pwp_freezeG 8 hT.gb fun H2 hn2 hG2 hf2 => ?_
          have hGn : Grow H2 d9 9 ((ks.map an).map sD) := hT.ga.kept hn2 hT.ab hf2
          obtain ⟨S, hS⟩ : ∃ S, sortT (acc.map textP) = S := ⟨_, rfl⟩
          have hSl : S.length = m := by rw [← hS, (sortT_good _).1.length_eq, List.length_map, hP.acc_len]
          rw [hS]
          obtain ⟨g8, t8, hfr, ht8⟩ := frD_at' 9 sD S
          rw [hfr]
          have f0 : (E.set 8 (.slice g8 t8 (S.map sD))).get 0 = .slice g 36 X := by simp [*]
          have f6 : (E.set 8 (.slice g8 t8 (S.map sD))).get 6 = sD T := by simp [*]
          have f7 : (E.set 8 (.slice g8 t8 (S.map sD))).get 7 = .val (.int .i64 (k : Nat)) := by simp [*]
          have f8 : (E.set 8 (.slice g8 t8 (S.map sD))).get 8 = .slice g8 t8 (S.map sD) := by simp [*]
          have f9 : (E.set 8 (.slice g8 t8 (S.map sD))).get 9 = d9 := by simp [*]
          have f10 : (E.set 8 (.slice g8 t8 (S.map sD))).get 10 = .val (.int .i64 (m : Nat)) := by simp [*]
          have fn : (E.set 8 (.slice g8 t8 (S.map sD))).n = 169 := by simp [*]
          generalize E.set 8 (.slice g8 t8 (S.map sD)) = E2 at *
          clear e0 e6 e7 e9 e10 en hfr hf2 hG2 hT hn2
          obtain ⟨p, hp⟩ : ∃ p, l[m]? = some p := ⟨_, List.getElem?_eq_getElem hm⟩
          have y1 := kl.out m p hp
          have y2 : Y.getD m .undef = pairD p := by rw [List.getD, y1]; rfl
          have y3 := get_of y1
          obtain ⟨b1, b2⟩ := kxb.out.2 p (List.mem_of_getElem? hp)
          have hF := rFind_spec p.1 (by omega)
          have kP := Hold.mk (And.intro hP hp)
          clear hP hp
          by_cases h20 : fatt p.1 < 20
          case neg =>
            have kR := ksn.out.2 13 (kP.out.1.bad kP.out.2 (normS_none h20))
            obtain ⟨t, v⟩ := p
            simp only [pairD] at y1 y2 y3 hF h20
            clear hGn
            refine W2 ?_
            refine PCalls.mono (hF _) ?_
            intro d3 H3 hd3
            rw [hd3.1, hd3.2]
            clear hd3
            try simp [*]
            try simp [*]
            refine W2 ?_
            simp [*, kR.out, resD]
          obtain ⟨o, ho⟩ : ∃ o, holdM (asy (fatt p.1)) p.2 = o := ⟨_, rfl⟩
          have hkey := rKey_spec (asy (fatt p.1)) p.2 b2
          rw [ho] at hkey
          have hend : ∀ b : Bool, b = (o.isSome && !(ks.any fun c => decide (an c = an (fatt p.1)))) → b = false → Hold (R = .error 2) := by
            intro b hb hf
            rw [hf] at hb
            cases o with
            | none => exact ksn.out.2 2 (kP.out.1.bad kP.out.2 (normS_key h20 ho))
            | some w => exact ksn.out.2 2 (kP.out.1.bad kP.out.2 (normS_twice h20 ho (by rw [kP.out.1.any h20]; simpa using hb.symm)))
          have hgo : ∀ w, o = some w → (ks.any fun c => decide (an c = an (fatt p.1))) = false → Part l (m + 1) (acc ++ [(lowL (an (fatt p.1)), w)]) (ks ++ [fatt p.1]) := fun w hw hn => kP.out.1.next kP.out.2 h20 (by rw [ho, hw]) hn
          have hwl : ∀ w, o = some w → w.length ≤ 100000 := fun w hw => hold_len (by rw [ho, hw])
          have kends := Hold.mk (And.intro hend (And.intro hgo hwl))
          clear hend hgo hwl ho
          obtain ⟨t, v⟩ := p
          simp only [pairD] at y1 y2 y3 hF h20 kends hkey
          obtain ⟨a, ha⟩ : ∃ a, fatt t = a := ⟨_, rfl⟩
          unfold findD at hF
          rw [ha] at hF h20 kends hkey
          have kfew := Hold.mk h20
          clear ha
          obtain ⟨NL, hNL⟩ : ∃ NL, (ks.map an).map sD = NL := ⟨_, rfl⟩
          have gNL : Hold (∀ j c, ks[j]? = some c → NL[j]? = some (sD (an c))) := ⟨fun j c h => by rw [← hNL, List.getElem?_map, List.getElem?_map, h]; rfl⟩
          have hNLl : NL.length = ks.length := by rw [← hNL]; simp
          have hksl : ks.length = m := kP.out.1.len
          rw [hNL] at hGn
          have kNL := Hold.mk hNL
          clear hNL
          have kGn := Hold.mk hGn
          clear hGn
          obtain ⟨b, hb⟩ : ∃ b, H2.nx = b := ⟨_, rfl⟩
          have hI0 : ∀ c1 : List D, NameI ((H2.new (.cells c1)).put H2.nx (some (.cells (cellsD (atD a))))) d9 NL b a := fun c1 => ⟨kGn.out.boxed _ _, by rw [← hb]; simp, by rw [← hb]; simp⟩
          have kI0 := Hold.mk hI0
          clear hI0
          obtain ⟨kv, hkv⟩ : ∃ kv, o.getD [] = kv := ⟨_, rfl⟩
          obtain ⟨isok, hok⟩ : ∃ q, o.isSome = q := ⟨_, rfl⟩
          simp only [rkD, optK] at hkey
          rw [hkv, hok] at hkey
          rw [hok] at kends
          have kkv := Hold.mk (And.intro hkv hok)
          clear hkv hok
          refine W2 ?_
          refine PCalls.mono (hF _) ?_
          intro d3 H3 hd3
          rw [hd3.1, hd3.2]
          clear hd3
          try simp [*]
          try simp [*]
          refine W2 ?_
          refine PCalls.mono (hkey _) ?_
          intro d3 H3 hd3
          rw [hd3.1, hd3.2]
          clear hd3
          try simp [*]
          try simp [*]
          refine W2 ?_
          refine pwp_for (ks.length) (fun j st => st.env.n = 169 ∧ st.df = [] ∧ st.env.get 0 = .slice g 36 X ∧ st.env.get 6 = sD T ∧ st.env.get 7 = .val (.int .i64 (k : Nat)) ∧ st.env.get 8 = .slice g8 t8 (S.map sD) ∧ st.env.get 9 = d9 ∧ st.env.get 10 = .val (.int .i64 (m : Nat)) ∧ st.env.get 11 = .ptr b 0 ∧ st.env.get 13 = sD kv ∧ st.env.get 14 = .val (.bool (isok && !((ks.take j).any fun c => decide (an c = an a)))) ∧ st.env.get 15 = .val (.int .i64 (j : Nat)) ∧ (NameI st.H d9 NL b a)) ⟨by first | (simp; done) | (simp [*]; done), rfl, by first | (simp; done) | (simp [*]; done), by first | (simp; done) | (simp [*]; done), by first | (simp; done) | (simp [*]; done), by first | (simp; done) | (simp [*]; done), by first | (simp; done) | (simp [*]; done), by first | (simp; done) | (simp [*]; done), by first | (simp; done) | (simp [*]; done), by first | (simp; done) | (simp [*]; done), by first | (simp; done) | (simp [*]; done), by first | (simp; done) | (simp [*]; done), ?_⟩ ?_ ?_
          · simpa [hb] using kI0.out _
          · clear f0 f6 f7 f8 f9 f10 fn
            rintro j ⟨E, Hx, df⟩ hj ⟨en, edf, e0, e6, e7, e8, e9, e10, e11, e13, e14, e15, eP⟩
            simp only at en edf e0 e6 e7 e8 e9 e10 e11 e13 e14 e15
            subst edf
            have hji : (j : Int) < ((ks.length : Nat) : Int) := by omega
            have hjw := wrapSucc j (by omega)
            obtain ⟨c, hc⟩ : ∃ c, ks[j]? = some c := ⟨_, List.getElem?_eq_getElem hj⟩
            have z1 := gNL.out j c hc
            have hane := any_snoc (q := fun c => decide (an c = an a)) hc
            obtain ⟨i9, hi9, hd9, hg9⟩ := growRow eP.g (fun q => by rw [q] at z1; cases z1)
            have kGN := Hold.mk eP
            have hbx := eP.box
            have hbl := eP.lt
            have hdd : (NL.map fun x => x) = NL := by simp
            clear eP hc hdd
            have hne9 : ¬ i9 = b := fun q => by rw [q, hbx] at hg9; cases hg9
            obtain ⟨bo, hbo⟩ : ∃ q, (ks.take j).any (fun c => decide (an c = an a)) = q := ⟨_, rfl⟩
            obtain ⟨bn, hbn⟩ : ∃ q, (ks.take (j + 1)).any (fun c => decide (an c = an a)) = q := ⟨_, rfl⟩
            rw [hbo] at hane e14
            rw [hbn] at hane ⊢
            clear hbo hbn
            have z3 := get_of z1
            simp only [sD] at z1 z3
            rw [hd9] at e9
            have hjl : j < NL.length := by omega
            have hjli : (j : Int) < (NL.length : Int) := by omega
            cases hq : (isok && !bo) with
            | false =>
              have hq2 : (isok && !bn) = false := by
                rw [hane]
                cases isok <;> cases bo <;> simp_all
              rw [hq] at e14
              clear hq hane
              refine W2 ?_
              simp [*]
              have hfin := kGN.out
              rw [hd9, hNLl, hksl] at hfin
              exact hfin
            | true =>
              have hq2 : (isok && !bn) = !decide (an c = an a) := by
                rw [hane]
                cases isok <;> cases bo <;> simp_all
              rw [hq] at e14
              clear hq hane
              by_cases hca : an c = an a
              · rw [decide_eq_true hca] at hq2
                refine W2 ?_
                simp [*]
                have hfin := kGN.out
                rw [hd9, hNLl, hksl] at hfin
                exact hfin
              · rw [decide_eq_false hca] at hq2
                refine W2 ?_
                simp [*]
                have hfin := kGN.out
                rw [hd9, hNLl, hksl] at hfin
                exact hfin
          · clear f0 f6 f7 f8 f9 f10 fn
            rintro ⟨E, Hx, df⟩ ⟨en, edf, e0, e6, e7, e8, e9, e10, e11, e13, e14, e15, eP⟩
            simp only at en edf e0 e6 e7 e8 e9 e10 e11 e13 e14 e15
            subst edf
            rw [List.take_length] at e14
            have hlen9 := lenG43 eP.g
            have hend := kends.out.1 _ rfl
            obtain ⟨bo, hbo⟩ : ∃ q, ks.any (fun c => decide (an c = an a)) = q := ⟨_, rfl⟩
            rw [hbo] at e14 hend
            cases hq : (isok && !bo) with
            | false =>
              have kR := hend hq
              rw [hq] at e14
              clear hq hend eP
              refine W2 ?_
              simp [*, kR.out, resD]
            | true =>
              rw [hq] at e14
              have hio : isok = true ∧ bo = false := by simpa using hq
              obtain ⟨w, hw⟩ : ∃ w, o = some w := Option.isSome_iff_exists.1 (kkv.out.2.trans hio.1)
              have hkvw : kv = w := by rw [← kkv.out.1, hw]; rfl
              subst hkvw
              have hPn := kends.out.2.1 kv hw (hbo.trans hio.2)
              have hwl := kends.out.2.2 kv hw
              have kPn := Hold.mk hPn
              have kI := Hold.mk eP
              have hbx := eP.box
              have hGb : (NL.length + 1) * 16 ≤ 140737488355328 := by omega
              clear hend hbo hq hPn hw hio eP
              have hLow := rLower_spec (an a) (an_small a)
              have hPut := rePut_spec kv hwl
              have hPl := escM_len kv
              obtain ⟨lw, hlw⟩ : ∃ x, lowL (an a) = x := ⟨_, rfl⟩
              have hlwl : lw.length ≤ 2000 := by rw [← hlw]; exact (an_no a kfew.out).2
              rw [hlw] at hLow kPn
              clear hlw
              obtain ⟨tx, htx⟩ : ∃ tx, lw ++ 61 :: escM kv = tx := ⟨_, rfl⟩
              have htp : textP (lw, kv) = tx := htx
              have hfin : sortT ((acc ++ [(lw, kv)]).map textP) = S.take (posT tx S) ++ tx :: S.drop (posT tx S) := by
                rw [List.map_append, List.map_cons, List.map_nil, sortT_snoc, hS, htp, insT_eq]
              have hNL2 : ((ks ++ [a]).map an).map sD = NL ++ [sD (an a)] := by rw [List.map_append, List.map_append, kNL.out]; rfl
              have kfin := Hold.mk (And.intro hNL2.symm hfin.symm)
              have hple := posT_le tx S
              have kpos := Hold.mk (And.intro (posT_lt tx S) (posT_at tx S))
              clear hfin hNL2 htp
              obtain ⟨P, hPP⟩ : ∃ P, posT tx S = P := ⟨_, rfl⟩
              rw [hPP] at kfin hple kpos
              clear hPP
              have gZ : Hold (∀ j y, S[j]? = some y → (S.map sD)[j]? = some (sD y)) := ⟨fun j y h => by rw [List.getElem?_map, h]; rfl⟩
              have hZl : (S.map sD).length = S.length := by simp
              obtain ⟨Z, hZ⟩ : ∃ Z, S.map sD = Z := ⟨_, rfl⟩
              have kZ := Hold.mk hZ
              rw [hZ] at gZ hZl e8
              clear hZ
              refine W2 ?_
              refine oK_grow kI.out.g hGb ?_
              intro d9b H5 hG5 hn5 hg5 hf5
              have hbx5 : H5.get b = some (.cells (cellsD (atD a))) := (hf5 b kI.out.lt (NotIt.ofGet kI.out.g kI.out.box)).1.trans kI.out.box
              have kN5 := Hold.mk hG5
              clear hG5 hf5 hbx hn5 hg5
              try simp [*]
              refine W2 ?_
              refine PCalls.mono (hLow _) ?_
              intro d3 H3 hd3
              rw [hd3.1, hd3.2]
              clear hd3
              try simp [*]
              try simp [*]
              refine W2 ?_
              refine PCalls.mono (hPut _) ?_
              intro d3 H3 hd3
              rw [hd3.1, hd3.2]
              clear hd3
              try simp [*]
              try simp [*]
              refine W2 ?_
              refine pwp_for (P) (fun q st => st.env.n = 169 ∧ st.df = [] ∧ st.H = H5 ∧ st.env.get 0 = .slice g 36 X ∧ st.env.get 6 = sD T ∧ st.env.get 7 = .val (.int .i64 (k : Nat)) ∧ st.env.get 8 = .slice g8 t8 Z ∧ st.env.get 9 = d9b ∧ st.env.get 10 = .val (.int .i64 (m : Nat)) ∧ st.env.get 16 = sD tx ∧ st.env.get 17 = .val (.int .i64 (q : Nat))) ⟨by first | (simp; done) | (simp [*]; done), rfl, by first | rfl | simp, by first | (simp; done) | (simp [*]; done), by first | (simp; done) | (simp [*]; done), by first | (simp; done) | (simp [*]; done), by first | (simp; done) | (simp [*]; done), by first | (simp; done) | (simp [*]; done), by first | (simp; done) | (simp [*]; done), by first | (simp; done) | (simp [*]; done), by first | (simp; done) | (simp [*]; done)⟩ ?_ ?_
              · clear e0 e6 e7 e8 e9 e10 e11 e13 e14 e15 en
                rintro q ⟨E, Hx, df⟩ hq ⟨en, edf, eH, e0, e6, e7, e8, e9, e10, e16, e17⟩
                simp only at en edf eH e0 e6 e7 e8 e9 e10 e16 e17
                subst edf; replace eH := eH.symm; subst eH
                have hqi : (q : Int) < ((P : Nat) : Int) := by omega
                have hqw := wrapSucc q (by omega)
                have hz1 : t8 = 9 := by rcases ht8 with h | h; exact h; rw [h] at hple; simp at hple; omega
                subst hz1
                obtain ⟨y, hy⟩ : ∃ y, S[q]? = some y := ⟨_, List.getElem?_eq_getElem (by omega)⟩
                have hlt := kpos.out.1 q y hy hq
                have y1 := gZ.out q y hy
                have y2 : Z.getD q .undef = sD y := by rw [List.getD, y1]; rfl
                have y3 := get_of y1
                simp only [sD] at y1 y2 y3
                have v2 : q < m := by omega
                clear hy
                refine W2 ?_
                simp [*]
              · clear e0 e6 e7 e8 e9 e10 e11 e13 e14 e15 en
                rintro ⟨E, Hx, df⟩ ⟨en, edf, eH, e0, e6, e7, e8, e9, e10, e16, e17⟩
                simp only at en edf eH e0 e6 e7 e8 e9 e10 e16 e17
                subst edf; replace eH := eH.symm; subst eH
                by_cases hPl : P < S.length
                case' pos =>
                  have hz1 : t8 = 9 := by rcases ht8 with h | h; exact h; rw [h] at hPl; simp at hPl
                  subst hz1
                  obtain ⟨y, hy⟩ : ∃ y, S[P]? = some y := ⟨_, List.getElem?_eq_getElem hPl⟩
                  have hlt := kpos.out.2 y hy
                  have y1 := gZ.out P y hy
                  have y2 : Z.getD P .undef = sD y := by rw [List.getD, y1]; rfl
                  have y3 := get_of y1
                  simp only [sD] at y1 y2 y3
                  have v2 : P < m := by omega
                  clear hy
                  refine W2 ?_
                case' neg =>
                  have hPe : P = S.length := by omega
                  have v2 : ¬ P < m := by omega
                  clear hPe
                  refine W2 ?_
                all_goals
                  have hZe : Z = S.map sD := kZ.out.symm
                  have hcut : Z.take P ++ [D.val (.string ⟨tx.toArray⟩)] ++ Z.drop P = (S.take P ++ tx :: S.drop P).map sD := by rw [hZe]; simp [List.map_take, List.map_drop]
                  try have he9 : (9 = t8 ∨ Z = []) = True := eq_true (ht8.imp Eq.symm (fun q => by rw [hZe, q]; rfl))
                  have htl : Z.take m = Z := List.take_of_length_le (by omega)
                  have hPle : (P : Int) ≤ (m : Int) := by omega
                  clear hZe
                  refine region_ordersX_k mixedO [] [[1,2,3,5,8,9,10,0,4,6,7,11,12],[1,2,3,5,8,9,10,0,6,4,7,11,12],[1,2,3,5,8,9,10,6,0,4,7,11,12]] (by decide +kernel) fun K1 hK1 pp hpp => ?_
                  simp only [List.mem_cons, List.mem_nil_iff, or_false] at hpp
                  rcases hpp with rfl | rfl | rfl
                  · simp [*]
                    refine oK_own (own_none H5 9) (by simp; omega) ?_
                    intro r1 H1 o1 n1 f1
                    rw [List.nil_append] at o1
                    have N1 := Grow.beside ⟨kN5.out.new _, Grow.apartNew kN5.out (Nat.le_refl _)⟩ n1 f1
                    simp [*]
                    refine oK_own (own_new o1 (.row 9 [D.val (.string ⟨tx.toArray⟩)])) (by simp; omega) ?_
                    intro r2 H2 o2 n2 f2
                    have N2 := Grow.beside ⟨N1.1.new _, N1.2⟩ n2 f2
                    simp [*]
                    refine oK_own o2 (by simp; omega) ?_
                    intro r3 H3 o3 n3 f3
                    have N3 := Grow.beside ⟨N2.1, N2.2⟩ n3 f3
                    clear f1 f2 f3
                    simp [*]
                    rw [hcut] at o3
                    clear o1 o2
                    have hT3 : Two H3 d9b 9 (NL ++ [sD (an a)]) r3 9 ((S.take P ++ tx :: S.drop P).map sD) := ⟨N3.1, own_grow o3 (by simp), N3.2⟩
                    clear N1 N2 N3
                    rw [kfin.out.2, kfin.out.1] at hT3
                    have kT3 := Hold.mk hT3
                    clear hT3 o3
                    refine W2 ?_
                    simp [*]
                    exact ⟨_, _, kPn.out, by simpa using kT3.out⟩
                  · simp [*]
                    refine oK_own (own_new (own_none H5 9) (.row 9 [D.val (.string ⟨tx.toArray⟩)])) (by simp; omega) ?_
                    intro r1 H1 o1 n1 f1
                    rw [List.nil_append] at o1
                    have N1 := Grow.beside ⟨(kN5.out.new _).new _, Grow.apartNew kN5.out (Nat.le_refl _)⟩ n1 f1
                    have hb1 := (f1 (H5.nx + 1) (by simp) (fun e a n q => by injection q with q1; omega)).1
                    rw [Heap.new_get, if_pos (by simp)] at hb1
                    have hbn : H5.nx + 1 < H1.nx := by simp at n1; omega
                    simp [*]
                    refine oK_own o1 (by simp; omega) ?_
                    intro r2 H2 o2 n2 f2
                    have N2 := Grow.beside ⟨N1.1, N1.2⟩ n2 f2
                    simp [*]
                    refine oK_own o2 (by simp; omega) ?_
                    intro r3 H3 o3 n3 f3
                    have N3 := Grow.beside ⟨N2.1, N2.2⟩ n3 f3
                    clear hb1
                    clear f1 f2 f3
                    simp [*]
                    rw [hcut] at o3
                    clear o1 o2
                    have hT3 : Two H3 d9b 9 (NL ++ [sD (an a)]) r3 9 ((S.take P ++ tx :: S.drop P).map sD) := ⟨N3.1, own_grow o3 (by simp), N3.2⟩
                    clear N1 N2 N3
                    rw [kfin.out.2, kfin.out.1] at hT3
                    have kT3 := Hold.mk hT3
                    clear hT3 o3
                    refine W2 ?_
                    simp [*]
                    exact ⟨_, _, kPn.out, by simpa using kT3.out⟩
                  · simp [*]
                    refine oK_own (own_none (H5.new (.row 9 [D.val (.string ⟨tx.toArray⟩)])) 9) (by simp; omega) ?_
                    intro r1 H1 o1 n1 f1
                    rw [List.nil_append] at o1
                    have N1 := Grow.beside ⟨(kN5.out.new _).new _, Grow.apartNew kN5.out (by simp)⟩ n1 f1
                    have hb1 := (f1 H5.nx (by simp; omega) (fun e a n q => by injection q with q1; simp at q1)).1
                    rw [Heap.new_get, if_neg (by simp), Heap.new_get, if_pos rfl] at hb1
                    have hbn : H5.nx < H1.nx := by simp at n1; omega
                    simp [*]
                    refine oK_own o1 (by simp; omega) ?_
                    intro r2 H2 o2 n2 f2
                    have N2 := Grow.beside ⟨N1.1, N1.2⟩ n2 f2
                    simp [*]
                    refine oK_own o2 (by simp; omega) ?_
                    intro r3 H3 o3 n3 f3
                    have N3 := Grow.beside ⟨N2.1, N2.2⟩ n3 f3
                    clear hb1
                    clear f1 f2 f3
                    simp [*]
                    rw [hcut] at o3
                    clear o1 o2
                    have hT3 : Two H3 d9b 9 (NL ++ [sD (an a)]) r3 9 ((S.take P ++ tx :: S.drop P).map sD) := ⟨N3.1, own_grow o3 (by simp), N3.2⟩
                    clear N1 N2 N3
                    rw [kfin.out.2, kfin.out.1] at hT3
                    have kT3 := Hold.mk hT3
                    clear hT3 o3
                    refine W2 ?_
                    simp [*]
                    exact ⟨_, _, kPn.out, by simpa using kT3.out⟩
        · rintro ⟨E, Hx, df⟩ ⟨en, edf, e0, e6, e7, e10, eP⟩
          simp only at en edf e0 e6 e7 e10
          subst edf
          obtain ⟨acc, ks, hP, hT⟩ := eP
          have hok : normM l = .ok acc := by have := hP.ok; rwa [List.take_length] at this
          refine pwp_freezeG 8 hT.gb fun H2 hn2 hG2 hf2 => ?_
          obtain ⟨S, hS⟩ : ∃ S, sortT (acc.map textP) = S := ⟨_, rfl⟩
          have hSl : S.length = l.length := by rw [← hS, (sortT_good _).1.length_eq, List.length_map, hP.acc_len]
          have hSb : ∀ b ∈ S, b.length ≤ 302001 := fun b hb => by
            rw [← hS] at hb
            obtain ⟨p, hp, rfl⟩ := List.mem_map.1 ((sortT_good _).1.mem_iff.1 hb)
            exact textP_len p (hP.keys p hp).1 (hP.keys p hp).2
          have hlev : levK l = .ok (joinB 43 S) := by unfold levK; rw [hok]; simp only; rw [hS]
          have hnx := ksn.out.1
          rw [hlev] at hnx
          rw [hS]
          have hSne : S ≠ [] := fun q => hne (List.eq_nil_of_length_eq_zero (by rw [← hSl, q]; rfl))
          have hfr : frD 9 (S.map sD) = .slice 0 9 (S.map sD) := by unfold frD; rw [if_neg (by simpa using hSne)]
          rw [hfr]
          have f0 : (E.set 8 (.slice 0 9 (S.map sD))).get 0 = .slice g 36 X := by simp [*]
          have f6 : (E.set 8 (.slice 0 9 (S.map sD))).get 6 = sD T := by simp [*]
          have f7 : (E.set 8 (.slice 0 9 (S.map sD))).get 7 = .val (.int .i64 (k : Nat)) := by simp [*]
          have f8 : (E.set 8 (.slice 0 9 (S.map sD))).get 8 = .slice 0 9 (S.map sD) := by simp [*]
          have f10 : (E.set 8 (.slice 0 9 (S.map sD))).get 10 = .val (.int .i64 (l.length : Nat)) := by simp [*]
          have fn : (E.set 8 (.slice 0 9 (S.map sD))).n = 169 := by simp [*]
          generalize E.set 8 (.slice 0 9 (S.map sD)) = E2 at *
          clear e0 e6 e7 e10 en hfr hf2 hG2 hT hn2 hok hP hS
          obtain ⟨T2, hT2⟩ : ∃ T2, T2 = T ++ (if k = 0 then [] else [44]) := ⟨_, rfl⟩
          have hjn : joinB 44 (Ls ++ [joinB 43 S]) = T2 ++ joinB 43 S := by
            have := joinB_next 44 (L := Ls ++ [joinB 43 S]) (k := k) (x := joinB 43 S) (by rw [List.getElem?_append_right (by omega), hLl, Nat.sub_self]; rfl)
            rw [List.take_of_length_le (by simp; omega), List.take_append_of_le_length (by omega), List.take_of_length_le (by omega), kT.out, ← List.append_assoc, ← hT2] at this
            exact this
          have hT2l : T2.length ≤ 7300000001 := by rw [hT2]; split <;> simp <;> omega
          have hcase : (k < 1 ∧ Hold (T2 = T)) ∨ (0 < k ∧ Hold (T ++ [44] = T2)) := by
            by_cases hk0 : k = 0
            · exact .inl ⟨by omega, ⟨by rw [hT2, if_pos hk0]; simp⟩⟩
            · exact .inr ⟨by omega, ⟨by rw [hT2, if_neg hk0]⟩⟩
          have hlast : Hold (∃ Ls, ((n.map (·.l)).take (k + 1)).mapM levK = .ok Ls ∧ Ls.length = k + 1 ∧ (∀ b ∈ Ls, b.length ≤ 604004000) ∧ sD (T2 ++ joinB 43 S) = sD (joinB 44 Ls)) := ⟨Ls ++ [joinB 43 S], by rw [hnx]; rfl, by simp [hLl], fun b hb => by
            rcases List.mem_append.1 hb with hb | hb
            · exact kL.out.2.2 b hb
            · simp at hb; subst hb
              exact joinB_le 43 302001 2000 604004000 rfl _ (by omega) hSb, by rw [hjn]⟩
          have T2b := Hold.mk hT2l
          have hpb : ∀ q, (joinB 43 (S.take q)).length ≤ 604004000 := fun q => joinB_le 43 302001 2000 604004000 rfl _ (by simp; omega) fun b hb => hSb b (sub_take hb)
          have hpn : ∀ q y, S[q]? = some y → joinB 43 (S.take (q + 1)) = _ := fun q y h => joinB_next 43 h
          have kS := Hold.mk (And.intro hpb (And.intro hpn hSb))
          clear hT2 hjn hnx hlev hpb hpn hSb
          have gZ : Hold (∀ j y, S[j]? = some y → (S.map sD)[j]? = some (sD y)) := ⟨fun j y h => by rw [List.getElem?_map, h]; rfl⟩
          have hZl : (S.map sD).length = l.length := by simpa using hSl
          obtain ⟨Z, hZ⟩ : ∃ Z, S.map sD = Z := ⟨_, rfl⟩
          rw [hZ] at gZ hZl f8
          clear hZ
          rcases hcase with ⟨q1, q2⟩ | ⟨q1, q2⟩ <;> have q3 := q2.out
          all_goals
            first | (have q4 : T2 = T := q3; subst q4) | skip
            refine W2 ?_
            clear hT2l
            refine pwp_for (l.length) (fun q st => st.env.n = 169 ∧ st.df = [] ∧ st.env.get 0 = .slice g 36 X ∧ st.env.get 6 = sD (T2 ++ joinB 43 (S.take q)) ∧ st.env.get 7 = .val (.int .i64 (k : Nat)) ∧ st.env.get 8 = .slice 0 9 Z ∧ st.env.get 18 = .val (.int .i64 (q : Nat))) ⟨by first | (simp; done) | (simp [*]; done), rfl, by first | (simp; done) | (simp [*]; done), by first | (simp; done) | (simp [*]; done), by first | (simp; done) | (simp [*]; done), by first | (simp; done) | (simp [*]; done), by first | (simp; done) | (simp [*]; done)⟩ ?_ ?_
            · clear f0 f6 f7 f8 f10 fn
              rintro q ⟨E, Hx, df⟩ hq ⟨en, edf, e0, e6, e7, e8, e18⟩
              simp only at en edf e0 e6 e7 e8 e18
              subst edf
              have hqi : (q : Int) < ((l.length : Nat) : Int) := by omega
              have hqw := wrapSucc q (by omega)
              obtain ⟨y, hy⟩ : ∃ y, S[q]? = some y := ⟨_, List.getElem?_eq_getElem (by omega)⟩
              have y1 := gZ.out q y hy
              have y2 : Z.getD q .undef = sD y := by rw [List.getD, y1]; rfl
              have y3 := get_of y1
              simp only [sD] at y1 y2 y3
              have b3 := kS.out.1 q
              have hs := kS.out.2.1 q y hy
              have b4 := kS.out.2.2 y (List.mem_of_getElem? hy)
              have hT2l := T2b.out
              obtain ⟨U, hU⟩ : ∃ U, joinB 43 (S.take q) = U := ⟨_, rfl⟩
              rw [hU] at hs b3 e6
              clear hU hy
              have hcs : (q < 1 ∧ Hold (joinB 43 (S.take (q + 1)) = U ++ y)) ∨ (0 < q ∧ Hold (joinB 43 (S.take (q + 1)) = U ++ 43 :: y)) := by
                by_cases hm0 : q = 0
                · exact .inl ⟨by omega, ⟨by rw [hs, if_pos hm0]; simp⟩⟩
                · exact .inr ⟨by omega, ⟨by rw [hs, if_neg hm0]; simp⟩⟩
              clear hs
              rcases hcs with ⟨r1, r2⟩ | ⟨r1, r2⟩
              all_goals
                refine W2 ?_
                simp [*]
                rw [r2.out]
                try simp
            · clear f0 f6 f7 f8 f10 fn
              rintro ⟨E, Hx, df⟩ ⟨en, edf, e0, e6, e7, e8, e18⟩
              simp only at en edf e0 e6 e7 e8 e18
              subst edf
              rw [List.take_of_length_le (by omega)] at e6
              refine W2 ?_
              simp [*]
              simpa using hlast.out
      · rintro ⟨E, Hx, df⟩ ⟨en, edf, e0, e7, eP⟩
        simp only at en edf e0 e7
        subst edf
        obtain ⟨Ls, hLs, hLl, hLb, e6⟩ := eP
        have hTb : (joinB 44 Ls).length ≤ 7300000000 := joinB_le 44 604004000 12 7300000000 rfl _ (by omega) hLb
        rw [List.take_of_length_le (by simp)] at hLs
        have hdef := kd2.out
        rw [hLs] at hdef
        simp only at hdef
        obtain ⟨T, hT⟩ : ∃ T, joinB 44 Ls = T := ⟨_, rfl⟩
        rw [hT] at hTb e6 hdef
        simp only at e6
        clear hT hLs hLb hLl kd2
        by_cases h : 1024 < T.length
        · rw [if_pos h] at hdef
          have hi : (1024 : Int) < (T.length : Int) := by omega
          refine W2 ?_
          simp [*, resD]
        · rw [if_neg h] at hdef
          have hi : ¬ (1024 : Int) < (T.length : Int) := by omega
          refine W2 ?_
          simp [*, resD]
theorem rdNormal_spec (g e : Nat) (n : List Lv) (he : e = 36 ∨ n = []) (hn : n.length ≤ 2000) (ho : ∀ x ∈ n, x.ok 35 ∧ LvB x.l) (H : Heap) :
    PCalls Tryz.prog 6 [.slice g e (n.map lvD)] H fun d H' => d = resD (normalM (n.map (·.l))) ∧ H' = H :=
  PCalls.liftG (rdNormal_local g e n he hn ho) (fun d hd => by
    simp only [List.mem_cons, List.not_mem_nil, or_false] at hd
    subst hd
    exact pure_name _ _ _) (pure_res _) H
end Go.Pv
-- ZpvTameA ZpvDrawT
set_option maxRecDepth 100000
namespace Go.Pv
open Go.Proofs
attribute [-simp] eLen UInt8.ofNat_add




/-! ### Names as arguments -/
theorem pairs_of {n : Nat} {t : TypeId} {cs : List D} (hu : Tryz.prog.underlying t = some (.slice 35)) (hb : 1 ≤ Tryz.prog.bytesOf 35) (h : OkC Tryz.prog (n + 3) t cs) :
    ∃ (g : Nat) (l : List (By × By)), cs = [.slice g 35 (l.map pairD)] ∧ l.length ≤ 140737488351232 ∧ ∀ p ∈ l, p.1.length ≤ 140737488351232 ∧ p.2.length ≤ 140737488351232 := by
  obtain ⟨g, l, rfl, h1, h2, h3⟩ := row_of hu h
  obtain ⟨us, rfl, h5⟩ := map_of (f := pairD) (q := fun p : By × By => p.1.length ≤ 140737488351232 ∧ p.2.length ≤ 140737488351232) (l := l) fun x hx => by
    obtain ⟨cs, rfl, hc⟩ := h3 x hx
    unfold OkC at hc
    rw [Tryz.underlying35] at hc
    obtain ⟨a, r, rfl, q1, b, r2, rfl, q2, rfl⟩ := hc
    obtain ⟨t, ht, rfl⟩ := str_of Tryz.underlying9 q1
    obtain ⟨v, hv, rfl⟩ := str_of Tryz.underlying9 q2
    exact ⟨(t, v), by unfold elemOf; rw [Tryz.underlying35]; rfl, ht, hv⟩
  refine ⟨g, us, rfl, ?_, h5⟩
  rw [List.length_map] at h2
  have : us.length * 1 ≤ us.length * Tryz.prog.bytesOf 35 := Nat.mul_le_mul_left _ hb
  have hr : reachBytes = 140737488351232 := rfl
  omega
theorem name_of {n : Nat} {cs : List D} (h : OkC Tryz.prog (n + 4) 23 cs) :
    ∃ (g : Nat) (l : List Lv), cs = [.slice g 37 (l.map lvD)] ∧ l.length ≤ 140737488351232 ∧ ∀ x ∈ l, x.e = 35 ∧ x.l.length ≤ 140737488351232 := by
  obtain ⟨g, l, rfl, h1, h2, h3⟩ := row_of Tryz.underlying23 h
  obtain ⟨us, rfl, h5⟩ := map_of (f := lvD) (q := fun x : Lv => x.e = 35 ∧ x.l.length ≤ 140737488351232) (l := l) fun x hx => by
    obtain ⟨cs, rfl, hc⟩ := h3 x hx
    obtain ⟨g', l', rfl, q1, q2⟩ := pairs_of Tryz.underlying37 (of_decide_eq_true (by kernel_rfl)) hc
    exact ⟨⟨g', 35, l'⟩, by unfold elemOf; rw [Tryz.underlying37]; rfl, rfl, q1⟩
  refine ⟨g, us, rfl, ?_, h5⟩
  rw [List.length_map] at h2
  have : us.length * 1 ≤ us.length * Tryz.prog.bytesOf 37 := Nat.mul_le_mul_left _ (of_decide_eq_true (by kernel_rfl))
  have hr : reachBytes = 140737488351232 := rfl
  omega
/-! ### The law DnTells -/
theorem one_text : textN [[([111], [97, 44, 98])]] = [111, 61, 97, 92, 44, 98] := by decide +kernel
set_option maxHeartbeats 8000000 in
theorem dnTells_local (m : Int) (g : Nat) (n : List Lv) (hn : n.length ≤ 140737488351232) (ho : ∀ x ∈ n, x.e = 35 ∧ x.l.length ≤ 140737488351232) :
    PCalls Tryz.prog 3 [.slice g 37 (n.map lvD)] (noHeap (maxG 0 m)) fun d _ => d = .val (.bool true) := by
  have hown := lown_spec g n hn ho (noHeap (maxG 0 m))
  have h1 : n.length ≤ 2000 → (∀ x ∈ n, x.ok 35 ∧ LvB x.l) → _ := fun a b => dNormal_spec g 37 n (.inl rfl) a b
  have h2 : n.length ≤ 2000 → (∀ x ∈ n, x.ok 35 ∧ LvB x.l) → _ := fun a b => dText_spec g 37 n (.inl rfl) a b
  have h3 : n.length ≤ 2000 → (∀ x ∈ n, x.ok 35 ∧ LvB x.l) → _ := fun a b g e he => rdNormal_spec g e n he a b
  have h4 : n.length ≤ 2000 → (∀ x ∈ n, x.ok 35 ∧ LvB x.l) → _ := fun a b g e he => rdText_spec g e n he a b
  have hone := dText_spec 0 37 [⟨0, 35, [([111], [97, 44, 98])]⟩] (.inl rfl) (by simp) (fun x hx => by
    simp only [List.mem_cons, List.mem_nil_iff, or_false] at hx
    subst hx
    exact ⟨.inl rfl, by simp, fun p hp => by simp at hp; subst hp; simp⟩)
  have ht1 : textN ([(⟨0, 35, [([111], [97, 44, 98])]⟩ : Lv)].map (·.l)) = [111, 61, 97, 92, 44, 98] := one_text
  rw [ht1] at hone
  clear ht1
  simp only [List.map_cons, List.map_nil, lvD, pairD] at hone
  obtain ⟨g', e', hfr, he'⟩ := frD_at' 36 lvD n
  unfold ownR at hown
  rw [hfr] at hown
  have kn := Hold.mk (And.intro hn ho)
  have kh := Hold.mk (And.intro h1 (And.intro h2 (And.intro h3 h4)))
  clear hn ho hfr h1 h2 h3 h4
  obtain ⟨X, hX⟩ : ∃ X, n.map lvD = X := ⟨_, rfl⟩
  rw [hX] at hown kh ⊢
  clear hX
  refine PCalls.of_pwp Tryz.call3 Tryz.func3 rfl (by simp [Tryz.ntmps3]) ?_
  rw [Tryz.ntmps3]
  refine W2 ?_
  refine PCalls.mono hown ?_
  rintro d H' ⟨h | ⟨h, hB⟩, hH⟩
  · rw [h, hH]
    clear hown
    try simp [*]
    refine W2 ?_
    simp [*]
  · have hb1 : n.length ≤ 2000 := Nat.le_of_lt hB.1
    have hb2 : ∀ x ∈ n, x.ok 35 ∧ LvB x.l := fun x hx => ⟨.inl (kn.out.2 x hx).1, Nat.le_of_lt (hB.2 x hx).1, fun p hp => by have := (hB.2 x hx).2 p hp; omega⟩
    have k1 := kh.out.1 hb1 hb2
    have k2 := kh.out.2.1 hb1 hb2
    have k3 := kh.out.2.2.1 hb1 hb2 g' e' he'
    have k4 := kh.out.2.2.2 hb1 hb2 g' e' he'
    have hTl := textN_len (n := n.map (·.l)) (by simpa using hb1) (fun l hl => by
      obtain ⟨x, hx, rfl⟩ := List.mem_map.1 hl
      exact (hb2 x hx).2)
    obtain ⟨T, hT⟩ : ∃ T, textN (n.map (·.l)) = T := ⟨_, rfl⟩
    rw [hT] at k2 k4
    obtain ⟨R, hR⟩ : ∃ R, normalM (n.map (·.l)) = R := ⟨_, rfl⟩
    rw [hR] at k1 k3
    rw [h, hH]
    clear hown kh kn hB hb1 hb2 hT hR hTl h hH
    rcases R with er | t
    all_goals
      simp only [resD] at k1 k3
      try simp [*]
      refine W2 ?_
      refine PCalls.mono (k1 _ (by exact maxG_is _ m rfl)) ?_
      intro d3 H3 hd3
      rw [hd3.1, hd3.2]
      clear hd3
      try simp [*]
      try simp [*]
      refine W2 ?_
      refine PCalls.mono (k3 _) ?_
      intro d3 H3 hd3
      rw [hd3.1, hd3.2]
      clear hd3
      try simp [*]
      try simp [*]
      refine W2 ?_
      refine PCalls.mono (k2 _) ?_
      intro d3 H3 hd3
      rw [hd3.1, hd3.2]
      clear hd3
      try simp [*]
      try simp [*]
      refine W2 ?_
      refine PCalls.mono (k4 _) ?_
      intro d3 H3 hd3
      rw [hd3.1, hd3.2]
      clear hd3
      try simp [*]
      try simp [*]
      refine W2 ?_
      refine PCalls.thaw (k := 6) (ds' := [.slice 0 37 [.slice 0 35 [.agg [sD [111], sD [97, 44, 98]]]]]) (by simp [mapO, fz, mapO, sD]) ?_
      refine PCalls.mono (hone _) ?_
      rintro d3 H3 ⟨rfl, rfl⟩
      try simp [*]
      refine W2 ?_
      try simp [*]
theorem DnTells_walk (m : Int) (c0 : List D) (h0 : OkC Tryz.prog 9 23 c0) :
    PCalls Tryz.prog 3 [elemOf Tryz.prog 23 c0] (noHeap (maxG 0 m)) fun d _ => d = .val (.bool true) := by
  obtain ⟨g, n, rfl, hn, ho⟩ := name_of (n := 5) h0
  have e0 : elemOf Tryz.prog 23 [.slice g 37 (n.map lvD)] = .slice g 37 (n.map lvD) := by unfold elemOf; rw [Tryz.underlying23]; rfl
  rw [e0]
  exact dnTells_local m g n hn ho
end Go.Pv
