/- A part of the proof: functions of the program, walked, or what operations come to. -/
import Derived.Test.YtpedcchnhjffpaaGreatPvN1
import Derived.Test.YtpedcchnhjffpaaGreatPvLib
import Derived.Test.YtpedcchnhjffpaaGreatShelf
import Derived.Test.YtpedcchnhjffpaaGreatPvOF
import Derived.Test.YtpedcchnhjffpaaGreatPvTameA
import Derived.Test.YtpedcchnhjffpaaGreatPvD1
import Derived.Test.YtpedcchnhjffpaaGreatPvTwo
-- ZpvTameA ZpvDrawT
set_option maxRecDepth 100000
namespace Go.Pv
open Go.Proofs
/-! ### strings.Join of grown rows -/
theorem join_row (i : Nat) (L : List By) (s : By) (H : Heap) (hi : H.get i = some (.row 9 (L.map sD))) (hL : L.length ≤ 100000) (hn : L ≠ []) (hl : (Lib.join L s).length ≤ 140737488355328) :
    PCalls Tryz.prog 44 [.row i 9 0 L.length, sD s] H fun d H' => d = sD (Lib.join L s) ∧ H' = H := by
  intro base w0 Γ w args hR hA
  obtain ⟨v1, v2, rfl, r1, r2⟩ := repAll2 hA
  obtain rfl := rep_val r2
  cases r1 with
  | row _ _ _ _ x hb he hc hm =>
    obtain ⟨hb1, hlt, _, _, k3, k4, vs, T, fr, x3, x4, x5, x6⟩ := hR.objAt hi hb
    have hfl : flat (L.map sD) = L.map sD := flat_ones _ fun d hd => by obtain ⟨a, _, rfl⟩ := List.mem_map.1 hd; rfl
    have hmap : (L.map fun a => (⟨a.toArray⟩ : ByteArray)).map (·.data.toList) = L := by rw [List.map_map]; exact (List.map_congr_left (g := id) (fun a _ => by simp)).trans (List.map_id _)
    have hS := Tryz.strings_Join x.b (x.o + 0 * szOf Tryz.prog 9) (x.cap - 0) (L.map fun a => (⟨a.toArray⟩ : ByteArray)) ⟨s.toArray⟩ w (fun j y hj => by
      rw [List.getElem?_map] at hj
      obtain ⟨a, ha, rfl⟩ := Option.map_eq_some_iff.1 hj
      obtain ⟨v, hv, hr, _⟩ := x6 j (sD a) (by rw [hfl, List.getElem?_map, ha]; rfl)
      obtain rfl := rep_val hr
      rw [Nat.zero_mul, Nat.add_zero, cell_of_row w x.b _ vs T fr x3]; exact hv) hlt (by simp; omega) (by simp; omega) (by rw [hmap]; simpa using hl)
    rw [hmap] at hS
    simp only [List.length_map] at hS
    rw [Tryz.call44]
    refine Calls.mono hS ?_
    rintro e w' ⟨rfl, hB⟩
    refine ⟨_, rfl, Γ, H, _, .refl Γ, hR.world (hR.below.trans (Kept.ofBelow hB hR.size)) hB.size (fun b hb => hB.block b hb), .val _, ?_, rfl⟩
    simp [sD]
theorem join_none (s : By) (H : Heap) : PCalls Tryz.prog 44 [.slice 1 0 [], sD s] H fun d H' => d = sD [] ∧ H' = H := by
  intro base w0 Γ w args hR hA
  obtain ⟨v1, v2, rfl, r1, r2⟩ := repAll2 hA
  obtain rfl := rep_val r2
  have hv : ∃ a c, v1 = .slice a 0 c := by
    cases r1 with
    | nil => exact ⟨none, 0, rfl⟩
    | slice _ _ _ a ad cap vs hg => exact absurd rfl hg
  obtain ⟨a, c, rfl⟩ := hv
  rw [Tryz.call44]
  refine Calls.mono (Tryz.strings_Join_none a c ⟨s.toArray⟩ w) ?_
  rintro e w' ⟨rfl, rfl⟩
  exact ⟨_, rfl, Γ, H, _, .refl Γ, hR, .val _, rfl, rfl⟩
theorem Join_spec (d0 : D) (L : List By) (c : UInt8) (H : Heap) (hG : Grow H d0 9 (L.map sD)) (hL : L.length ≤ 100000) (hl : (joinB c L).length ≤ 140737488355328) :
    PCalls Tryz.prog 44 [d0, sD [c]] H fun d H' => d = sD (joinB c L) ∧ H' = H := by
  rcases hG with ⟨h, rfl⟩ | ⟨i, h1, rfl, h3, h4⟩
  · have : L = [] := by simpa using h
    subst this
    exact join_none [c] H
  · have := join_row i L [c] H h3 hL (by simpa using h4) (by rw [join_joinB]; exact hl)
    rw [join_joinB] at this
    rw [List.length_map]
    exact this
end Go.Pv
-- ZpvTameA ZpvDrawT
set_option maxRecDepth 100000
namespace Go.Pv
open Go.Proofs
attribute [-simp] eLen UInt8.ofNat_add



/-! ### Text -/
def pairD (p : By × By) : D := .agg [sD p.1, sD p.2]
/-- A row of pairs, however it is held. -/
structure Lv where
  g : Nat
  e : Nat
  l : List (By × By)
def lvD (x : Lv) : D := .slice x.g x.e (x.l.map pairD)
def Lv.ok (t : Nat) (x : Lv) : Prop := x.e = t ∨ x.l = []
def textP (p : By × By) : By := p.1 ++ 61 :: escM p.2
def levT (l : List (By × By)) : By := joinB 43 (l.map textP)
def textN (n : List (List (By × By))) : By := joinB 44 (n.map levT)
@[simp] theorem okPart_pair (p : By × By) : okPart (pairD p) = true := rfl
theorem pure_pair (p : By × By) : Pure (pairD p) := .agg _ fun d hd => by
  simp only [List.mem_cons, List.mem_nil_iff, or_false] at hd
  rcases hd with rfl | rfl <;> exact .val _
theorem flat_mem {l : List D} {d : D} (h : d ∈ flat l) : ∃ x ∈ l, d ∈ cellsD x := by
  unfold flat at h
  exact List.mem_flatMap.1 h
theorem pure_lv (x : Lv) : Pure (lvD x) := .slice _ _ _ fun d hd => by
  obtain ⟨y, hy, h⟩ := flat_mem hd
  obtain ⟨p, _, rfl⟩ := List.mem_map.1 hy
  simp only [pairD, cellsD, List.mem_cons, List.mem_nil_iff, or_false] at h
  rcases h with rfl | rfl <;> exact .val _
theorem pure_name (g e : Nat) (n : List Lv) : Pure (.slice g e (n.map lvD)) := .slice _ _ _ fun d hd => by
  obtain ⟨y, hy, h⟩ := flat_mem hd
  obtain ⟨p, _, rfl⟩ := List.mem_map.1 hy
  simp only [lvD, cellsD, List.mem_cons, List.mem_nil_iff, or_false] at h
  subst h
  exact pure_lv p
theorem escM_len (l : By) : (escM l).length ≤ 3 * l.length := putK_len l l.length
theorem textP_len (p : By × By) (h1 : p.1.length ≤ 2000) (h2 : p.2.length ≤ 100000) : (textP p).length ≤ 302001 := by
  have := escM_len p.2
  unfold textP
  simp; omega
theorem joinB_lenM (c : UInt8) (m : Nat) : ∀ (L : List By), (∀ b ∈ L, b.length ≤ m) → (joinB c L).length ≤ L.length * (m + 1)
  | [], _ => by simp [joinB]
  | [b], h => by have := h b (by simp); simp [joinB]; omega
  | b :: b2 :: L, h => by
    have h1 := h b (by simp)
    have h2 := joinB_lenM c m (b2 :: L) (fun x hx => h x (by simp [hx]))
    rw [joinB_cons _ _ _ (by simp)]
    have e : (b :: b2 :: L).length * (m + 1) = (b2 :: L).length * (m + 1) + (m + 1) := by rw [List.length_cons, Nat.succ_mul]
    rw [e]
    simp at h2 ⊢
    omega
def LvB (l : List (By × By)) : Prop := l.length ≤ 2000 ∧ ∀ p ∈ l, p.1.length ≤ 2000 ∧ p.2.length ≤ 100000
theorem joinB_le (c : UInt8) (m M k : Nat) (hk : Nat.ble (M * (m + 1)) k = true) (L : List By) (hL : L.length ≤ M) (h : ∀ b ∈ L, b.length ≤ m) : (joinB c L).length ≤ k :=
  Nat.le_trans (joinB_lenM c m L h) (Nat.le_trans (Nat.mul_le_mul_right _ hL) (Nat.le_of_ble_eq_true hk))
theorem levT_len {l : List (By × By)} (h : LvB l) : (levT l).length ≤ 604004000 := by
  refine joinB_le 43 302001 2000 604004000 rfl (l.map textP) (by rw [List.length_map]; exact h.1) (fun b hb => ?_)
  obtain ⟨p, hp, rfl⟩ := List.mem_map.1 hb
  exact textP_len p (h.2 p hp).1 (h.2 p hp).2
theorem textN_len {n : List (List (By × By))} (hn : n.length ≤ 2000) (h : ∀ l ∈ n, LvB l) : (textN n).length ≤ 1208008002000 := by
  refine joinB_le 44 604004000 2000 1208008002000 rfl (n.map levT) (by rw [List.length_map]; exact hn) (fun b hb => ?_)
  obtain ⟨p, hp, rfl⟩ := List.mem_map.1 hb
  exact levT_len (h p hp)
attribute [local simp] Heap.new_ne Heap.put_ne
set_option maxHeartbeats 4000000 in
set_option maxRecDepth 100000 in
theorem dText1_local (p : By × By) (h1 : p.1.length ≤ 2000) (h2 : p.2.length ≤ 100000) : PCalls Tryz.prog 18 [pairD p] (noHeap noG) fun d H' => d = sD (textP p) := by
  refine PCalls.of_pwp Tryz.call18 Tryz.func18 rfl (by simp [Tryz.ntmps18]) ?_
  rw [Tryz.ntmps18]
  have hl := escM_len p.2
  unfold pairD textP
  refine W2 ?_
  refine PCalls.mono (ePut_spec p.2 h2 _) ?_
  intro d3 H3 hd3
  rw [hd3.1, hd3.2]
  clear hd3
  try simp [*]
  try simp [*]
  refine W2 ?_
  simp [*]
theorem dText1_spec (p : By × By) (h1 : p.1.length ≤ 2000) (h2 : p.2.length ≤ 100000) (H : Heap) : PCalls Tryz.prog 18 [pairD p] H fun d H' => d = sD (textP p) ∧ H' = H :=
  PCalls.liftG (dText1_local p h1 h2) (fun d hd => by simp only [List.mem_cons, List.mem_nil_iff, or_false] at hd; subst hd; exact pure_pair p) (.val _) H
end Go.Pv
-- ZpvTameA ZpvDrawT
set_option maxRecDepth 100000
namespace Go.Pv
open Go.Proofs
attribute [-simp] eLen UInt8.ofNat_add



attribute [local simp] Heap.new_ne Heap.put_ne
theorem take_map_snoc {α β : Type} {f : α → β} {l : List α} {k : Nat} {x : α} (h : l[k]? = some x) : (l.take (k + 1)).map f = (l.take k).map f ++ [f x] := by
  rw [List.take_add_one, h]; simp
set_option maxHeartbeats 4000000 in
theorem djoined_local (g e : Nat) (n : List Lv) (he : e = 37 ∨ n = []) (hn : n.length ≤ 2000) (ho : ∀ x ∈ n, x.ok 35 ∧ LvB x.l) :
    PCalls Tryz.prog 17 [.slice g e (n.map lvD), .val (.func (.func 18) #[] #[])] (noHeap noG) fun d _ => d = sD (textN (n.map (·.l))) := by
  refine PCalls.of_pwp Tryz.call17 Tryz.func17 rfl (by simp [Tryz.ntmps17]) ?_
  rw [Tryz.ntmps17]
  have lN : (n.map lvD).length = n.length := by simp
  have gN := fun k x (h : n[k]? = some x) => (show (n.map lvD)[k]? = some (lvD x) by rw [List.getElem?_map, h]; rfl)
  have kg := Hold.mk gN
  clear gN
  obtain ⟨X, hX⟩ : ∃ X, n.map lvD = X := ⟨_, rfl⟩
  rw [hX] at lN kg ⊢
  clear hX
  refine W2 ?_
  refine pwp_for (n.length) (fun k st => st.env.n = 38 ∧ st.df = [] ∧ st.env.get 1 = .val (.func (.func 18) #[] #[]) ∧ st.env.get 11 = .slice g e X ∧ st.env.get 12 = .val (.int .i64 (n.length : Nat)) ∧ st.env.get 13 = .val (.int .i64 (k : Nat)) ∧ (Grow st.H (st.env.get 5) 9 ((n.take k).map fun x => sD (levT x.l)))) ⟨by first | (simp; done) | (simp [*]; done), rfl, by first | (simp; done) | (simp [*]; done), by first | (simp; done) | (simp [*]; done), by first | (simp; done) | (simp [*]; done), by first | (simp; done) | (simp [*]; done), ?_⟩ ?_ ?_
  · simpa using Grow.nil _ _
  · rintro k ⟨E, Hx, df⟩ hk ⟨en, edf, e1, e11, e12, e13, eP⟩
    simp only at en edf e1 e11 e12 e13
    subst edf
    have hki : (k : Int) < ((n.length : Nat) : Int) := by omega
    have hkw := wrapSucc k (by omega)
    obtain ⟨d5, e5⟩ : ∃ d, E.get 5 = d := ⟨_, rfl⟩
    simp only [e5] at eP
    have hz : e = 37 := by rcases he with h | h; exact h; subst h; simp at hk
    subst hz
    obtain ⟨x, hx⟩ : ∃ x, n[k]? = some x := ⟨_, List.getElem?_eq_getElem hk⟩
    have x1 := kg.out k x hx
    have x2 : X.getD k .undef = lvD x := by rw [List.getD, x1]; rfl
    have x3 := get_of x1
    obtain ⟨xo, xb⟩ := ho x (List.mem_of_getElem? hx)
    have hs := take_map_snoc (f := fun x : Lv => sD (levT x.l)) hx
    have hll := levT_len xb
    have hT := @Two.ofA Hx d5 9 9 _ eP
    obtain ⟨T5, hT5⟩ : ∃ T, (n.take k).map (fun x : Lv => sD (levT x.l)) = T := ⟨_, rfl⟩
    have hTl : T5.length ≤ 2000 := by rw [← hT5]; simp; omega
    rw [hT5] at hs hT
    clear eP hx hT5
    obtain ⟨g2, e2, l⟩ := x
    simp only [lvD, Lv.ok] at x1 x2 x3 xo xb hs hll
    have lL : (l.map pairD).length = l.length := by simp
    have gL := fun k x (h : l[k]? = some x) => (show (l.map pairD)[k]? = some (pairD x) by rw [List.getElem?_map, h]; rfl)
    have kl := Hold.mk gL
    clear gL
    obtain ⟨Y, hY⟩ : ∃ Y, l.map pairD = Y := ⟨_, rfl⟩
    rw [hY] at lL kl x1 x2 x3
    clear hY
    have b0 := xb.1
    have kxb := Hold.mk xb
    have kxo := Hold.mk xo
    have khs := Hold.mk hs
    clear xb xo hs
    refine W2 ?_
    refine pwp_for (l.length) (fun m st => st.env.n = 38 ∧ st.df = [] ∧ st.env.get 1 = .val (.func (.func 18) #[] #[]) ∧ st.env.get 11 = .slice g 37 X ∧ st.env.get 12 = .val (.int .i64 (n.length : Nat)) ∧ st.env.get 13 = .val (.int .i64 (k : Nat)) ∧ st.env.get 17 = .slice g2 e2 Y ∧ st.env.get 18 = .val (.int .i64 (l.length : Nat)) ∧ st.env.get 19 = .val (.int .i64 (m : Nat)) ∧ (Two st.H (st.env.get 5) 9 T5 (st.env.get 8) 9 (((l.map textP).take m).map sD))) ⟨by first | (simp; done) | (simp [*]; done), rfl, by first | (simp; done) | (simp [*]; done), by first | (simp; done) | (simp [*]; done), by first | (simp; done) | (simp [*]; done), by first | (simp; done) | (simp [*]; done), by first | (simp; done) | (simp [*]; done), by first | (simp; done) | (simp [*]; done), by first | (simp; done) | (simp [*]; done), ?_⟩ ?_ ?_
    · simpa [e5, en] using hT
    · clear hT
      rintro m ⟨E, Hx, df⟩ hm ⟨en, edf, e1, e11, e12, e13, e17, e18, e19, eP⟩
      simp only at en edf e1 e11 e12 e13 e17 e18 e19
      subst edf
      have hmi : (m : Int) < ((l.length : Nat) : Int) := by omega
      have hmw := wrapSucc m (by omega)
      obtain ⟨d5', e5⟩ : ∃ d, E.get 5 = d := ⟨_, rfl⟩
      obtain ⟨d8, e8⟩ : ∃ d, E.get 8 = d := ⟨_, rfl⟩
      simp only [e5, e8] at eP
      have hz : e2 = 35 := by rcases kxo.out with h | h; exact h; subst h; simp at hm
      subst hz
      obtain ⟨p, hp⟩ : ∃ p, l[m]? = some p := ⟨_, List.getElem?_eq_getElem hm⟩
      have y1 := kl.out m p hp
      have y2 : Y.getD m .undef = pairD p := by rw [List.getD, y1]; rfl
      have y3 := get_of y1
      simp only [pairD] at y1 y2 y3
      obtain ⟨b1, b2⟩ := kxb.out.2 p (List.mem_of_getElem? hp)
      have b3 := kxb.out.1
      have hs := take_map_snoc (f := sD) (show (l.map textP)[m]? = some (textP p) by rw [List.getElem?_map, hp]; rfl)
      have ks := Hold.mk hs
      have hbl : ((((l.map textP).take m).map sD).length + 1) * 16 ≤ 140737488355328 := by simp; omega
      clear hs hp
      refine W2 ?_
      refine PCalls.mono (dText1_spec p b1 b2 _) ?_
      intro d3 H3 hd3
      rw [hd3.1, hd3.2]
      clear hd3
      try simp [*]
      try simp [*]
      refine W2 ?_
      refine oK_grow2 (Two.boxed eP _ _) hbl ?_
      intro d8' H8 hT2 hn8 hg8
      have hT3 : Two H8 d5' 9 T5 d8' 9 (((l.map textP).take (m + 1)).map sD) := by rw [ks.out]; exact hT2
      have kT3 := Hold.mk hT3
      clear hbl eP hT2 hT3
      try simp [*]
      refine W2 ?_
      simp [*]
      simpa using kT3.out
    · rintro ⟨E, Hx, df⟩ ⟨en, edf, e1, e11, e12, e13, e17, e18, e19, eP⟩
      simp only at en edf e1 e11 e12 e13 e17 e18 e19
      subst edf
      obtain ⟨d5', e5⟩ : ∃ d, E.get 5 = d := ⟨_, rfl⟩
      obtain ⟨d8, e8⟩ : ∃ d, E.get 8 = d := ⟨_, rfl⟩
      simp only [e5, e8] at eP
      have hz : (l.map textP).take l.length = l.map textP := by rw [← List.length_map (f := textP), List.take_length]
      rw [hz] at eP
      have b3 := kxb.out.1
      have hJ := Join_spec d8 (l.map textP) 43 Hx eP.gb (by simp; omega) (by change (levT l).length ≤ _; omega)
      have hjl : joinB 43 (l.map textP) = levT l := rfl
      rw [hjl] at hJ
      clear hjl hz hT
      have kT := Hold.mk eP
      clear eP
      refine W2 ?_
      refine PCalls.mono (hJ) ?_
      intro d3 H3 hd3
      rw [hd3.1, hd3.2]
      clear hd3
      try simp [*]
      try simp [*]
      refine W2 ?_
      refine oK_grow1 kT.out (by omega) ?_
      intro d5' H8 hT2 hn8 hg8
      have hT3 : Grow H8 d5' 9 ((n.take (k + 1)).map fun x => sD (levT x.l)) := by rw [khs.out]; exact hT2.ga
      have kT3 := Hold.mk hT3
      clear hT2 hT3
      try simp [*]
      refine W2 ?_
      simp [*]
      simpa [sD] using kT3.out
  · rintro ⟨E, Hx, df⟩ ⟨en, edf, e1, e11, e12, e13, eP⟩
    simp only at en edf e1 e11 e12 e13
    subst edf
    obtain ⟨d5, e5⟩ : ∃ d, E.get 5 = d := ⟨_, rfl⟩
    simp only [e5] at eP
    have hz : (n.take n.length).map (fun x : Lv => sD (levT x.l)) = ((n.map (·.l)).map levT).map sD := by rw [List.take_length]; simp [List.map_map]
    rw [hz] at eP
    have hB := textN_len (n := n.map (·.l)) (by simpa using hn) (fun l hl => by
      obtain ⟨x, hx, rfl⟩ := List.mem_map.1 hl
      exact (ho x hx).2)
    have hJ := Join_spec d5 ((n.map (·.l)).map levT) 44 Hx eP (by simp; omega) (by change (textN _).length ≤ _; omega)
    have hjl : joinB 44 ((n.map (·.l)).map levT) = textN (n.map (·.l)) := rfl
    rw [hjl] at hJ
    clear hjl hz eP hB
    refine W2 ?_
    refine PCalls.mono (hJ) ?_
    intro d3 H3 hd3
    rw [hd3.1, hd3.2]
    clear hd3
    try simp [*]
    try simp [*]
    refine W2 ?_
    simp [*]
theorem djoined_spec (g e : Nat) (n : List Lv) (he : e = 37 ∨ n = []) (hn : n.length ≤ 2000) (ho : ∀ x ∈ n, x.ok 35 ∧ LvB x.l) (H : Heap) :
    PCalls Tryz.prog 17 [.slice g e (n.map lvD), .val (.func (.func 18) #[] #[])] H fun d H' => d = sD (textN (n.map (·.l))) ∧ H' = H :=
  PCalls.liftG (djoined_local g e n he hn ho) (fun d hd => by
    simp only [List.mem_cons, List.mem_nil_iff, or_false] at hd
    rcases hd with rfl | rfl
    · exact pure_name _ _ _
    · exact .val _) (.val _) H
theorem dText_spec (g e : Nat) (n : List Lv) (he : e = 37 ∨ n = []) (hn : n.length ≤ 2000) (ho : ∀ x ∈ n, x.ok 35 ∧ LvB x.l) (H : Heap) :
    PCalls Tryz.prog 7 [.slice g e (n.map lvD)] H fun d H' => d = sD (textN (n.map (·.l))) ∧ H' = H := by
  have hj := djoined_spec g e n he hn ho
  obtain ⟨X, hX⟩ : ∃ X, n.map lvD = X := ⟨_, rfl⟩
  rw [hX] at hj ⊢
  clear hX
  refine PCalls.of_pwp Tryz.call7 Tryz.func7 rfl (by simp [Tryz.ntmps7]) ?_
  rw [Tryz.ntmps7]
  refine W2 ?_
  refine PCalls.mono (hj _) ?_
  intro d3 H3 hd3
  rw [hd3.1, hd3.2]
  clear hd3
  try simp [*]
  try simp [*]
  refine W2 ?_
  simp [*]
end Go.Pv
-- ZpvTameA ZpvDrawT
set_option maxRecDepth 100000
namespace Go.Pv
open Go.Proofs
attribute [-simp] eLen UInt8.ofNat_add



/-! ### The document's Text -/
@[simp] theorem joinB_nil (c : UInt8) : joinB c [] = [] := rfl
theorem joinB_next (c : UInt8) {L : List By} {k : Nat} {x : By} (h : L[k]? = some x) : joinB c (L.take (k + 1)) = joinB c (L.take k) ++ ((if k = 0 then [] else [c]) ++ x) := by
  rw [List.take_add_one, h]
  have hk : k < L.length := (List.getElem?_eq_some_iff.1 h).1
  by_cases hz : k = 0
  · subst hz; simp [joinB]
  · have hne : L.take k ≠ [] := fun q => by
      have := congrArg List.length q
      rw [List.length_take, List.length_nil] at this
      omega
    rw [if_neg hz]
    simpa using joinB_snoc c (L.take k) x hne
theorem sub_take {α : Type} {l : List α} {k : Nat} {x : α} (h : x ∈ l.take k) : x ∈ l := List.mem_of_mem_take h
theorem lev_take {l : List (By × By)} (h : LvB l) (k : Nat) : (joinB 43 ((l.map textP).take k)).length ≤ 604004000 := by
  refine joinB_le 43 302001 2000 604004000 rfl _ (by have := h.1; simp; omega) (fun b hb => ?_)
  obtain ⟨p, hp, rfl⟩ := List.mem_map.1 (sub_take hb)
  exact textP_len p (h.2 p hp).1 (h.2 p hp).2
theorem name_take {n : List (List (By × By))} (hn : n.length ≤ 2000) (h : ∀ l ∈ n, LvB l) (k : Nat) : (joinB 44 ((n.map levT).take k)).length ≤ 1208008002000 := by
  refine joinB_le 44 604004000 2000 1208008002000 rfl _ (by simp; omega) (fun b hb => ?_)
  obtain ⟨p, hp, rfl⟩ := List.mem_map.1 (sub_take hb)
  exact levT_len (h p hp)
set_option maxHeartbeats 8000000 in
theorem rdText_spec (g e : Nat) (n : List Lv) (he : e = 36 ∨ n = []) (hn : n.length ≤ 2000) (ho : ∀ x ∈ n, x.ok 35 ∧ LvB x.l) (H : Heap) :
    PCalls Tryz.prog 8 [.slice g e (n.map lvD)] H fun d H' => d = sD (textN (n.map (·.l))) ∧ H' = H := by
  refine PCalls.of_pwp Tryz.call8 Tryz.func8 rfl (by simp [Tryz.ntmps8]) ?_
  rw [Tryz.ntmps8]
  have lN : (n.map lvD).length = n.length := by simp
  have gN := fun k x (h : n[k]? = some x) => (show (n.map lvD)[k]? = some (lvD x) by rw [List.getElem?_map, h]; rfl)
  have kg := Hold.mk gN
  clear gN
  have hB := name_take (n := n.map (·.l)) (by simpa using hn) (fun l hl => by
    obtain ⟨x, hx, rfl⟩ := List.mem_map.1 hl
    exact (ho x hx).2)
  have hJ : ∀ k x, n[k]? = some x → joinB 44 (((n.map (·.l)).map levT).take (k + 1)) = _ := fun k x h => joinB_next 44 (x := levT x.l) (by simp [h])
  have hfin : joinB 44 (((n.map (·.l)).map levT).take n.length) = textN (n.map (·.l)) := by
    rw [show n.length = ((n.map (·.l)).map levT).length by simp, List.take_length]; rfl
  have kJ := Hold.mk (And.intro hB hJ)
  clear hB hJ
  obtain ⟨Z, hZ⟩ : ∃ Z, (n.map (·.l)).map levT = Z := ⟨_, rfl⟩
  rw [hZ] at kJ hfin
  clear hZ
  obtain ⟨X, hX⟩ : ∃ X, n.map lvD = X := ⟨_, rfl⟩
  rw [hX] at lN kg ⊢
  clear hX
  refine W2 ?_
  refine pwp_for (n.length) (fun k st => st.env.n = 51 ∧ st.df = [] ∧ st.H = H ∧ st.env.get 0 = .slice g e X ∧ st.env.get 4 = .val (.int .i64 (k : Nat)) ∧ st.env.get 3 = sD (joinB 44 (Z.take k))) ⟨by first | (simp; done) | (simp [*]; done), rfl, by first | rfl | simp, by first | (simp; done) | (simp [*]; done), by first | (simp; done) | (simp [*]; done), by first | (simp; done) | (simp [*]; done)⟩ ?_ ?_
  · rintro k ⟨E, Hx, df⟩ hk ⟨en, edf, eH, e0, e4, e3⟩
    simp only at en edf eH e0 e4 e3
    subst edf; replace eH := eH.symm; subst eH
    have hki : (k : Int) < ((n.length : Nat) : Int) := by omega
    have hkw := wrapSucc k (by omega)
    have hz : e = 36 := by rcases he with h | h; exact h; subst h; simp at hk
    subst hz
    obtain ⟨x, hx⟩ : ∃ x, n[k]? = some x := ⟨_, List.getElem?_eq_getElem hk⟩
    have x1 := kg.out k x hx
    have x2 : X.getD k .undef = lvD x := by rw [List.getD, x1]; rfl
    have x3 := get_of x1
    obtain ⟨xo, xb⟩ := ho x (List.mem_of_getElem? hx)
    have hs := kJ.out.2 k x hx
    have hb1 := kJ.out.1 k
    clear hx
    obtain ⟨T, hT⟩ : ∃ T, joinB 44 (Z.take k) = T := ⟨_, rfl⟩
    rw [hT] at hs hb1 e3
    clear hT
    obtain ⟨g2, e2, l⟩ := x
    simp only [lvD, Lv.ok] at x1 x2 x3 xo xb hs
    have lL : (l.map pairD).length = l.length := by simp
    have gL := fun k x (h : l[k]? = some x) => (show (l.map pairD)[k]? = some (pairD x) by rw [List.getElem?_map, h]; rfl)
    have kl := Hold.mk gL
    clear gL
    obtain ⟨Y, hY⟩ : ∃ Y, l.map pairD = Y := ⟨_, rfl⟩
    rw [hY] at lL kl x1 x2 x3
    clear hY
    have b0 := xb.1
    have hb2 := lev_take xb
    have hP : ∀ m p, l[m]? = some p → joinB 43 ((l.map textP).take (m + 1)) = _ := fun m p h => joinB_next 43 (x := textP p) (by simp [h])
    have hlf : joinB 43 ((l.map textP).take l.length) = levT l := by rw [← List.length_map (f := textP), List.take_length]; rfl
    obtain ⟨W, hW⟩ : ∃ W, l.map textP = W := ⟨_, rfl⟩
    rw [hW] at hb2 hP hlf
    clear hW
    have kxb := Hold.mk (And.intro xb (And.intro hb2 hP))
    have kxo := Hold.mk xo
    have khs := Hold.mk (And.intro hs hlf)
    clear xb xo hs hb2 hP hlf
    obtain ⟨T2, hT2⟩ : ∃ T2, T2 = T ++ (if k = 0 then [] else [44]) := ⟨_, rfl⟩
    have hs2 : joinB 44 (Z.take (k + 1)) = T2 ++ levT l := by rw [khs.out.1, hT2, List.append_assoc]
    have hT2l : T2.length ≤ 1208008002001 := by rw [hT2]; split <;> simp <;> omega
    have hcase : (k < 1 ∧ Hold (T = T2)) ∨ (0 < k ∧ Hold (T ++ [44] = T2)) := by
      by_cases hk0 : k = 0
      · exact .inl ⟨by omega, ⟨by rw [hT2, if_pos hk0]; simp⟩⟩
      · exact .inr ⟨by omega, ⟨by rw [hT2, if_neg hk0]⟩⟩
    have ks2 := Hold.mk hs2
    have T2b := Hold.mk hT2l
    clear hs2 hT2
    rcases hcase with ⟨q1, q2⟩ | ⟨q1, q2⟩ <;> have q3 := q2.out
    all_goals
      first | (have q4 : T2 = T := q3.symm; subst q4) | skip
      refine W2 ?_
      clear hT2l hb1
      refine pwp_for (l.length) (fun m st => st.env.n = 51 ∧ st.df = [] ∧ st.H = H ∧ st.env.get 0 = .slice g 36 X ∧ st.env.get 4 = .val (.int .i64 (k : Nat)) ∧ st.env.get 5 = .val (.int .i64 (m : Nat)) ∧ st.env.get 3 = sD (T2 ++ joinB 43 (W.take m))) ⟨by first | (simp; done) | (simp [*]; done), rfl, by first | rfl | simp, by first | (simp; done) | (simp [*]; done), by first | (simp; done) | (simp [*]; done), by first | (simp; done) | (simp [*]; done), by first | (simp; done) | (simp [*]; done)⟩ ?_ ?_
      · rintro m ⟨E, Hx, df⟩ hm ⟨en, edf, eH, e0, e4, e5, e3⟩
        simp only at en edf eH e0 e4 e5 e3
        subst edf; replace eH := eH.symm; subst eH
        have hmi : (m : Int) < ((l.length : Nat) : Int) := by omega
        have hmw := wrapSucc m (by omega)
        have hz : e2 = 35 := by rcases kxo.out with h | h; exact h; subst h; simp at hm
        subst hz
        obtain ⟨p, hp⟩ : ∃ p, l[m]? = some p := ⟨_, List.getElem?_eq_getElem hm⟩
        have y1 := kl.out m p hp
        have y2 : Y.getD m .undef = pairD p := by rw [List.getD, y1]; rfl
        have y3 := get_of y1
        simp only [pairD] at y1 y2 y3
        obtain ⟨b1, b2⟩ := kxb.out.1.2 p (List.mem_of_getElem? hp)
        have b3 := kxb.out.2.1 m
        have hs := kxb.out.2.2 m p hp
        have b4 := escM_len p.2
        obtain ⟨U, hU⟩ : ∃ U, joinB 43 (W.take m) = U := ⟨_, rfl⟩
        rw [hU] at hs b3 e3
        clear hU hp
        have hcs : (m < 1 ∧ Hold (joinB 43 (W.take (m + 1)) = U ++ (p.1 ++ 61 :: escM p.2))) ∨ (0 < m ∧ Hold (joinB 43 (W.take (m + 1)) = U ++ 43 :: (p.1 ++ 61 :: escM p.2))) := by
          by_cases hm0 : m = 0
          · exact .inl ⟨by omega, ⟨by rw [hs, if_pos hm0]; simp [textP]⟩⟩
          · exact .inr ⟨by omega, ⟨by rw [hs, if_neg hm0]; simp [textP]⟩⟩
        clear hs
        have hT2l := T2b.out
        rcases hcs with ⟨r1, r2⟩ | ⟨r1, r2⟩
        all_goals
          refine W2 ?_
          refine PCalls.mono (rePut_spec p.2 b2 _) ?_
          intro d3 H3 hd3
          rw [hd3.1, hd3.2]
          clear hd3
          try simp [*]
          try simp [*]
          refine W2 ?_
          simp [*]
          rw [r2.out]
          try simp
      · rintro ⟨E, Hx, df⟩ ⟨en, edf, eH, e0, e4, e5, e3⟩
        simp only at en edf eH e0 e4 e5 e3
        subst edf; replace eH := eH.symm; subst eH
        rw [khs.out.2, ← ks2.out] at e3
        refine W2 ?_
        simp [*]
  · rintro ⟨E, Hx, df⟩ ⟨en, edf, eH, e0, e4, e3⟩
    simp only at en edf eH e0 e4 e3
    subst edf; replace eH := eH.symm; subst eH
    rw [hfin] at e3
    refine W2 ?_
    simp [*]
end Go.Pv
-- ZpvTameA ZpvDrawT
set_option maxRecDepth 100000
namespace Go.Pv
open Go.Proofs
attribute [-simp] eLen UInt8.ofNat_add



/-! ### The law's own -/
theorem fz_pairs {P : Program} (n : Nat) (H : Heap) (p : By × By) : fz P (n + 2) H (pairD p) = some (pairD p) :=
  fzi_agg fun x hx => by simp at hx; rcases hx with rfl | rfl <;> rfl
theorem fz_lv {P : Program} (n : Nat) (H : Heap) (x : Lv) : fz P (n + 3) H (lvD x) = some (lvD x) :=
  fzi_slice fun y hy => by obtain ⟨p, _, rfl⟩ := List.mem_map.1 hy; exact fz_pairs n H p
def LB (l : List (By × By)) : Prop := l.length < 2000 ∧ ∀ p ∈ l, p.1.length < 2000 ∧ p.2.length < 2000
def NB (n : List Lv) : Prop := n.length < 2000 ∧ ∀ x ∈ n, LB x.l
theorem min2000 (a : Nat) : (if (2000 : Int) < (a : Int) then (2000 : Int) else (a : Int)) = ((min a 2000 : Nat) : Int) := by split <;> omega
def ownR (n : List Lv) (d : D) : Prop := d = .tup [.slice 1 0 [], .val (.bool false)] ∨ (d = .tup [frD 36 (n.map lvD), .val (.bool true)] ∧ NB n)
set_option maxHeartbeats 8000000 in
theorem lown_local (g : Nat) (n : List Lv) (hn : n.length ≤ 140737488351232) (ho : ∀ x ∈ n, x.e = 35 ∧ x.l.length ≤ 140737488351232) :
    PCalls Tryz.prog 4 [.slice g 37 (n.map lvD)] (noHeap noG) fun d H' => ∃ r, fz Tryz.prog 6 H' d = some r ∧ ownR n r := by
  refine PCalls.of_pwp Tryz.call4 Tryz.func4 rfl (by simp [Tryz.ntmps4]) ?_
  rw [Tryz.ntmps4]
  have lN : (n.map lvD).length = n.length := by simp
  have gN := fun k x (h : n[k]? = some x) => (show (n.map lvD)[k]? = some (lvD x) by rw [List.getElem?_map, h]; rfl)
  have kg := Hold.mk gN
  clear gN
  obtain ⟨X, hX⟩ : ∃ X, n.map lvD = X := ⟨_, rfl⟩
  rw [hX] at lN kg ⊢
  have khX := Hold.mk hX
  clear hX
  have kho := Hold.mk ho
  clear ho
  refine W2 ?_
  refine pwp_for (n.length) (fun k st => st.env.n = 63 ∧ st.df = [] ∧ st.env.get 0 = .slice g 37 X ∧ st.env.get 6 = .val (.int .i64 (k : Nat)) ∧ (∃ s : Nat, st.env.get 5 = .val (.int .i64 (s : Nat)) ∧ s < 2000 ∧ 5 * k ≤ s) ∧ (Grow st.H (st.env.get 4) 36 ((n.take k).map lvD)) ∧ (∀ x ∈ n.take k, LB x.l)) ⟨by first | (simp; done) | (simp [*]; done), rfl, by first | (simp; done) | (simp [*]; done), by first | (simp; done) | (simp [*]; done), ?_, ?_, ?_⟩ ?_ ?_
  · exact ⟨0, by simp, by omega, by omega⟩
  · simpa using Grow.nil _ _
  · intro x hx; simp at hx
  · rintro k ⟨E, Hx, df⟩ hk ⟨en, edf, e0, e6, eP, eP1, eP2⟩
    simp only at en edf e0 e6
    subst edf
    have hki : (k : Int) < ((n.length : Nat) : Int) := by omega
    have hkw := wrapSucc k (by omega)
    obtain ⟨s, e5, hs1, hs2⟩ := eP
    obtain ⟨d4, e4⟩ : ∃ d, E.get 4 = d := ⟨_, rfl⟩
    simp only [e4] at eP1
    obtain ⟨x, hx⟩ : ∃ x, n[k]? = some x := ⟨_, List.getElem?_eq_getElem hk⟩
    have x1 := kg.out k x hx
    have x2 : X.getD k .undef = lvD x := by rw [List.getD, x1]; rfl
    have x3 := get_of x1
    obtain ⟨xo, xl⟩ := kho.out x (List.mem_of_getElem? hx)
    have hsn := take_map_snoc (f := lvD) hx
    have hpre : ∀ y ∈ n.take (k + 1), y ∈ n.take k ∨ y = x := fun y hy => by
      rw [List.take_add_one, hx] at hy
      simpa using hy
    have kpre := Hold.mk (And.intro eP2 hpre)
    have ksn := Hold.mk hsn
    clear eP2 hpre hsn hx
    obtain ⟨T, hT⟩ : ∃ T, (n.take k).map lvD = T := ⟨_, rfl⟩
    have hTl : T.length ≤ 400 := by rw [← hT]; simp; omega
    rw [hT] at eP1 ksn
    clear hT
    obtain ⟨g2, e2, l⟩ := x
    simp only at xo xl
    subst xo
    simp only [lvD] at x1 x2 x3
    have lL : (l.map pairD).length = l.length := by simp
    have gL := fun k x (h : l[k]? = some x) => (show (l.map pairD)[k]? = some (pairD x) by rw [List.getElem?_map, h]; rfl)
    have kl := Hold.mk gL
    clear gL
    obtain ⟨Y, hY⟩ : ∃ Y, l.map pairD = Y := ⟨_, rfl⟩
    have khY := Hold.mk hY
    rw [hY] at lL kl x1 x2 x3
    clear hY
    have w0 := wrapI ((s : Int) + 5) (by omega) (by omega)
    have kT := Hold.mk eP1
    clear eP1
    refine W2 ?_
    refine pwp_loop (fun q st => ∃ m s2 : Nat, m ≤ l.length ∧ q = l.length - m ∧ st.env.n = 63 ∧ st.df = [] ∧ st.env.get 0 = .slice g 37 X ∧ st.env.get 6 = .val (.int .i64 (k : Nat)) ∧ st.env.get 4 = d4 ∧ st.env.get 7 = .val (.int .i64 (m : Nat)) ∧ st.env.get 5 = .val (.int .i64 (s2 : Nat)) ∧ s2 ≤ 9000 ∧
      Grow st.H d4 36 T ∧ Hold (s2 < 2000 → s + 5 + 5 * m ≤ s2 ∧ ∀ p ∈ l.take m, p.1.length < 2000 ∧ p.2.length < 2000)) l.length ⟨0, s + 5, by omega, by omega, by simp [en], by simp, by simp [e0], by simp [e6], by simp [e4], by simp [en], by simp [en], by omega, kT.out, ⟨fun h => ⟨by omega, by simp⟩⟩⟩ ?_
    rintro q ⟨E, Hx, df⟩ ⟨m, s2, hm, rfl, en, edf, e0, e6, e4, e7, e5, hs2l, hT4, hP⟩
    simp only at en edf e0 e6 e4 e7 e5 hT4
    subst edf
    clear w0
    have kT4 := Hold.mk hT4
    clear hT4 kT
    by_cases c1 : (m : Int) < (l.length : Int)
    · by_cases c2 : (s2 : Int) < 2000
      · have hml : m < l.length := by omega
        obtain ⟨p, hp⟩ : ∃ p, l[m]? = some p := ⟨_, List.getElem?_eq_getElem hml⟩
        have y1 := kl.out m p hp
        have y2 : Y.getD m .undef = pairD p := by rw [List.getD, y1]; rfl
        have y3 := get_of y1
        simp only [pairD] at y1 y2 y3
        have m1 := min2000 p.1.length
        have m2 := min2000 p.2.length
        have hw := wrapSucc m (by omega)
        have w1 := wrapI ((s2 : Int) + 5) (by omega) (by omega)
        have w2 : IntKind.i64.wrap ((s2 : Int) + 5 + ((min p.1.length 2000 : Nat) : Int)) = ((s2 + 5 + min p.1.length 2000 : Nat) : Int) := by rw [wrapI _ (by omega) (by omega)]; omega
        have w3 : IntKind.i64.wrap (((s2 + 5 + min p.1.length 2000 : Nat) : Int) + ((min p.2.length 2000 : Nat) : Int)) = ((s2 + 5 + min p.1.length 2000 + min p.2.length 2000 : Nat) : Int) := by rw [wrapI _ (by omega) (by omega)]; omega
        have hP2 : Hold (s2 + 5 + min p.1.length 2000 + min p.2.length 2000 < 2000 → s + 5 + 5 * (m + 1) ≤ s2 + 5 + min p.1.length 2000 + min p.2.length 2000 ∧ ∀ p ∈ l.take (m + 1), p.1.length < 2000 ∧ p.2.length < 2000) := ⟨fun h => by
          obtain ⟨q1, q2⟩ := hP.out (by omega)
          refine ⟨by omega, fun y hy => ?_⟩
          rw [List.take_add_one, hp] at hy
          rcases List.mem_append.1 hy with hy | hy
          · exact q2 y hy
          · simp at hy; subst hy; omega⟩
        have hN : s2 + 5 + min p.1.length 2000 + min p.2.length 2000 ≤ 9000 := by omega
        obtain ⟨N1, hN1⟩ : ∃ N, s2 + 5 + min p.1.length 2000 = N := ⟨_, rfl⟩
        rw [hN1] at hP2 hN w2 w3
        obtain ⟨N2, hN2⟩ : ∃ N, N1 + min p.2.length 2000 = N := ⟨_, rfl⟩
        rw [hN2] at hP2 hN w3
        obtain ⟨a1, ha1⟩ : ∃ N, min p.1.length 2000 = N := ⟨_, rfl⟩
        obtain ⟨a2, ha2⟩ : ∃ N, min p.2.length 2000 = N := ⟨_, rfl⟩
        rw [ha1] at m1 w2
        rw [ha2] at m2 w3
        clear hp hN1 hN2 ha1 ha2 hP
        refine W2 ?_
        refine ⟨l.length - (m + 1), by omega, m + 1, N2, by omega, rfl, by simp [*], rfl, by simp [*], by simp [*], by simp [*], by simp [*], by simp [*], hN, kT4.out, hP2⟩
      · clear hP
        have kf : Hold (∃ r, fz Tryz.prog 6 Hx (.tup [.slice 1 0 [], .val (.bool false)]) = some r ∧ ownR n r) := ⟨⟨_, rfl, .inl rfl⟩⟩
        refine W2 ?_
        simp [*]
        exact kf.out
    · have hml : m = l.length := by omega
      subst hml
      by_cases c2 : (s2 : Int) < 2000
      · obtain ⟨q1, q2⟩ := hP.out (by omega)
        rw [List.take_length] at q2
        have hB : LB l := ⟨by omega, q2⟩
        have c3 : ¬ (2000 ≤ (s2 : Int)) := by omega
        have hsl : s2 < 2000 ∧ 5 * (k + 1) ≤ s2 := by omega
        clear q2 hP
        refine W2 ?_
        refine oK_grow kT4.out (by omega) ?_
        intro d4' H4 hG4 hn4 hg4 hf4
        have hG5 : Grow H4 d4' 36 ((n.take (k + 1)).map lvD) := by rw [ksn.out, lvD, khY.out]; exact hG4
        have kG5 := Hold.mk hG5
        clear hG4 hG5 hf4
        try simp [*]
        refine W2 ?_
        simp [*]
        refine ⟨⟨s2, rfl, by omega⟩, by simpa using kG5.out, fun x hx => ?_⟩
        rcases kpre.out.2 x hx with h | h
        · exact kpre.out.1 x h
        · subst h; exact hB
      · clear hP
        have kf : Hold (∃ r, fz Tryz.prog 6 Hx (.tup [.slice 1 0 [], .val (.bool false)]) = some r ∧ ownR n r) := ⟨⟨_, rfl, .inl rfl⟩⟩
        refine W2 ?_
        simp [*]
        exact kf.out
  · rintro ⟨E, Hx, df⟩ ⟨en, edf, e0, e6, eP, eP1, eP2⟩
    simp only at en edf e0 e6
    subst edf
    obtain ⟨s, e5, hs1, hs2⟩ := eP
    obtain ⟨d4, e4⟩ : ∃ d, E.get 4 = d := ⟨_, rfl⟩
    simp only [e4, List.take_length] at eP1 eP2
    have kG := Hold.mk eP1
    clear eP1
    have hfin : ∃ r, fz Tryz.prog 6 Hx (.tup [d4, .val (.bool true)]) = some r ∧ ownR n r := ⟨_, fz_tup2 (Grow.fz kG.out (fzi_map (fz_lv 1 _) n)), .inr ⟨rfl, by omega, eP2⟩⟩
    have kfin := Hold.mk hfin
    clear hfin eP2
    refine W2 ?_
    simp [*]
    exact kfin.out
theorem pure_own {n : List Lv} {d : D} (h : ownR n d) : Pure d := by
  rcases h with rfl | ⟨rfl, _⟩
  · exact .tup _ fun d hd => by
      simp only [List.mem_cons, List.mem_nil_iff, or_false] at hd
      rcases hd with rfl | rfl
      · exact .slice _ _ _ (fun d hd => by cases hd)
      · exact .val _
  · obtain ⟨g, e', h, _⟩ := frD_at' 36 lvD n
    rw [h]
    exact .tup _ fun d hd => by
      simp only [List.mem_cons, List.mem_nil_iff, or_false] at hd
      rcases hd with rfl | rfl
      · exact pure_name _ _ _
      · exact .val _
theorem lown_spec (g : Nat) (n : List Lv) (hn : n.length ≤ 140737488351232) (ho : ∀ x ∈ n, x.e = 35 ∧ x.l.length ≤ 140737488351232) (H : Heap) :
    PCalls Tryz.prog 4 [.slice g 37 (n.map lvD)] H fun d H' => ownR n d ∧ H' = H :=
  PCalls.liftR (G := noG) (PCalls.frozenR (n := 6) (lown_local g n hn ho)) (fun d hd => by
    simp only [List.mem_cons, List.not_mem_nil, or_false] at hd
    subst hd
    exact pure_name _ _ _) (fun d hd => pure_own hd) (fun g cs h => by cases h) (fun g cs h => by cases h)
end Go.Pv
