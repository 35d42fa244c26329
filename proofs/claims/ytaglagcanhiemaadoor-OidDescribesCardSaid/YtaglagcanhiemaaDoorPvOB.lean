/- A part of the proof: functions of the program, walked, or what operations come to. -/
import Derived.Test.YtaglagcanhiemaaDoorPvOA
-- ZpvDrawT
namespace Go.Pv
open Go.Proofs
attribute [-simp] eLen UInt8.ofNat_add

/-! ### oid.Read -/
/-- The two boxes: the texts of the numbers, and the number that is being told. -/
def RdInv (A : List Nat) (n : Nat) (H : Heap) : Prop := ∃ d, H.get 0 = some (.cells [d]) ∧ Grow H d 9 (A.map fun m => sD (digits m)) ∧ H.get 1 = some (.cells [natD n]) ∧ NotIt d 0 ∧ NotIt d 1 ∧ 2 ≤ H.nx
@[simp] theorem okPart_grow {H : Heap} {d : D} {e : TypeId} {l : List D} (h : Grow H d e l) : okPart d = true := by rcases h with ⟨_, rfl⟩ | ⟨i, _, rfl, _⟩ <;> rfl
theorem cells_grow {H : Heap} {d : D} {e : TypeId} {l : List D} (h : Grow H d e l) : cellsD d = [d] := by rcases h with ⟨_, rfl⟩ | ⟨i, _, rfl, _⟩ <;> rfl
theorem one_grow {H : Heap} {d : D} {e : TypeId} {l : List D} (h : Grow H d e l) : oneD d = true := by rcases h with ⟨_, rfl⟩ | ⟨i, _, rfl, _⟩ <;> rfl
theorem Grow.put {H : Heap} {d : D} {e : TypeId} {l : List D} (h : Grow H d e l) (j : Nat) (o : Option PObj) (hn : NotIt d j) : Grow (H.put j o) d e l := by
  rcases h with h | ⟨i, h1, h2, h3, h4⟩
  · exact .inl h
  · exact .inr ⟨i, h1, h2, by rw [Heap.put_ne _ _ (fun q => hn e 0 l.length (by rw [h2, q]))]; exact h3, h4⟩
set_option maxHeartbeats 4000000 in
set_option maxRecDepth 100000 in
theorem ReadArc_more (A : List Nat) (n : Nat) (hA : A.length ≤ 17) (hA0 : A ≠ []) (hn : n < 9223372036854775808) (H : Heap) (hI : RdInv A n H) : PCalls Tryd.prog 23 [.ptr 0 0, .ptr 1 0] H fun d H' => d = .tup [] ∧ RdInv (A ++ [n]) 0 H' := by
  refine PCalls.of_pwp Tryd.call23 Tryd.func23 rfl (by simp [Tryd.ntmps23]) ?_
  rw [Tryd.ntmps23]
  obtain ⟨d, h0, hG, h1, hn0, hn1, h2⟩ := hI
  have hlen := lenG36 hG
  rw [List.length_map] at hlen
  have hAz : ¬ A.length = 0 := fun q => hA0 (List.eq_nil_of_length_eq_zero q)
  have hD := Digits_spec n hn
  have oc := okPart_grow hG
  have cc := cells_grow hG
  have oo := one_grow hG
  simp only [natD] at h1
  repeat (first | with_reducible refine seq_k fun K hK => ?_ | (with_reducible refine region_k fun K hK => ?_; simp [*]) | (with_reducible refine region_drawT_k mixedO (by decide +kernel) fun K hK => ?_; simp [*]) | with_reducible refine pwp_block ?_ | with_reducible refine pwp_skip ?_ | with_reducible refine pwp_ret ?_ | with_reducible refine pwp_exit ?_ | (with_reducible refine cond_t ?_ ?_; (focus (simp [*]; done))) | (with_reducible refine cond_f ?_ ?_; (focus (simp [*]; done))) | with_reducible refine then_n ?_ | with_reducible refine then_r ?_ | with_reducible refine then_e ?_ | with_reducible refine then_g ?_ | with_reducible refine inB_n ?_ | with_reducible refine inB_r ?_ | with_reducible refine inB_e ?_ | with_reducible refine inB_o rfl ?_ | with_reducible refine inB_g ?_ | with_reducible refine Leads.go (by assumption) ?_)
  refine region_tame_b mixedO H.nx [2, 3] [0] ?_ fun K hK => ?_
  · decide +kernel
  have hl0 : (0 : Nat) < H.nx := by omega
  have hne0 : ¬ (0 = H.nx) := by omega
  have hne1 : ¬ (1 = H.nx) := by omega
  simp [*, Low, List.range']
  refine PCalls.mono (hD _) ?_
  intro d3 H3 hd3
  rw [hd3.1, hd3.2]
  clear hd3
  try simp [*]
  refine oK_grow hG ?_ ?_
  · first | (simp; done) | (simp; omega) | omega
  intro d2 H2 hG2 hn2 hH2 hf2
  try simp [*]
  have f0 := hf2 0 (by omega) hn0
  have f1 := hf2 1 (by omega) hn1
  rw [h0] at f0
  rw [h1] at f1
  obtain ⟨f0, f0'⟩ := f0
  obtain ⟨f1, f1'⟩ := f1
  have oc2 := okPart_grow hG2
  have cc2 := cells_grow hG2
  have oo2 := one_grow hG2
  clear hf2 h0 h1 hG oc cc oo
  try simp [*]
  repeat (first | with_reducible refine seq_k fun K hK => ?_ | (with_reducible refine region_k fun K hK => ?_; simp [*]) | (with_reducible refine region_drawT_k mixedO (by decide +kernel) fun K hK => ?_; simp [*]) | with_reducible refine pwp_block ?_ | with_reducible refine pwp_skip ?_ | with_reducible refine pwp_ret ?_ | with_reducible refine pwp_exit ?_ | (with_reducible refine cond_t ?_ ?_; (focus (simp [*]; done))) | (with_reducible refine cond_f ?_ ?_; (focus (simp [*]; done))) | with_reducible refine then_n ?_ | with_reducible refine then_r ?_ | with_reducible refine then_e ?_ | with_reducible refine then_g ?_ | with_reducible refine inB_n ?_ | with_reducible refine inB_r ?_ | with_reducible refine inB_e ?_ | with_reducible refine inB_o rfl ?_ | with_reducible refine inB_g ?_ | with_reducible refine Leads.go (by assumption) ?_)
  simp [retPost]
  refine ⟨d2, by simp, ?_, by simp, f0', f1', by simp; omega⟩
  rw [List.map_append]
  exact (hG2.put 0 _ f0').put 1 _ f1'
set_option maxHeartbeats 4000000 in
set_option maxRecDepth 100000 in
theorem ReadArc_first (n : Nat) (hn : n < 9223372036854775808) (H : Heap) (hI : RdInv [] n H) : PCalls Tryd.prog 23 [.ptr 0 0, .ptr 1 0] H fun d H' => d = .tup [] ∧ RdInv [min (n / 40) 2, n - min (n / 40) 2 * 40] 0 H' := by
  refine PCalls.of_pwp Tryd.call23 Tryd.func23 rfl (by simp [Tryd.ntmps23]) ?_
  rw [Tryd.ntmps23]
  obtain ⟨d, h0, hG, h1, hn0, hn1, h2⟩ := hI
  rcases hG with ⟨_, rfl⟩ | ⟨_, _, _, _, h⟩
  case inr => exact absurd rfl h
  have hlen : ∀ H2, eLen Tryd.prog 36 (.slice 1 0 []) H2 = some (.val (.int .i64 0)) := fun H2 => by simp
  have q1 : (n : Int).tdiv 40 = ((n / 40 : Nat) : Int) := tdivN n 40
  have q2 := wrapI ((n / 40 : Nat) : Int) (by omega) (by omega)
  have hD1 := Digits_spec (min (n / 40) 2) (by omega)
  have hD2 := Digits_spec (n - min (n / 40) 2 * 40) (by omega)
  obtain ⟨r, hr⟩ : ∃ r, min (n / 40) 2 = r := ⟨_, rfl⟩
  obtain ⟨m, hm⟩ : ∃ m, n - r * 40 = m := ⟨_, rfl⟩
  rw [hr] at hD1 hD2 ⊢
  rw [hm] at hD2 ⊢
  have q3 : (if (2 : Int) < ((n / 40 : Nat) : Int) then (2 : Int) else ((n / 40 : Nat) : Int)) = (r : Int) := by split <;> omega
  have q4 := wrapI ((r : Int) * 40) (by omega) (by omega)
  have q5 : IntKind.i64.wrap ((n : Int) - (r : Int) * 40) = (m : Int) := by rw [wrapI _ (by omega) (by omega)]; omega
  have hl0 : (0 : Nat) < H.nx := by omega
  have hne0 : ¬ (0 = H.nx) := by omega
  have hne1 : ¬ (1 = H.nx) := by omega
  simp only [natD] at h1
  clear hlen
  generalize n / 40 = a at *
  repeat (first | with_reducible refine seq_k fun K hK => ?_ | (with_reducible refine region_k fun K hK => ?_; simp [*]) | (with_reducible refine region_drawT_k mixedO (by decide +kernel) fun K hK => ?_; simp [*]) | with_reducible refine pwp_block ?_ | with_reducible refine pwp_skip ?_ | with_reducible refine pwp_ret ?_ | with_reducible refine pwp_exit ?_ | (with_reducible refine cond_t ?_ ?_; (focus (simp [*]; done))) | (with_reducible refine cond_f ?_ ?_; (focus (simp [*]; done))) | with_reducible refine then_n ?_ | with_reducible refine then_r ?_ | with_reducible refine then_e ?_ | with_reducible refine then_g ?_ | with_reducible refine inB_n ?_ | with_reducible refine inB_r ?_ | with_reducible refine inB_e ?_ | with_reducible refine inB_o rfl ?_ | with_reducible refine inB_g ?_ | with_reducible refine Leads.go (by assumption) ?_)
  refine region_tame_b mixedO H.nx [2, 3] [0] ?_ fun K hK => ?_
  · decide +kernel
  simp [*, Low, List.range']
  refine PCalls.mono (hD1 _) ?_
  intro d3 H3 hd3
  rw [hd3.1, hd3.2]
  clear hd3
  try simp [*]
  have gn := Grow.nil H 9
  refine oK_grow gn ?_ ?_
  · first | (simp; done) | (simp; omega) | omega
  intro d2 H2 hG2 hn2 hH2 hf2
  try simp [*]
  have f0 := hf2 0 (by omega) hn0
  have f1 := hf2 1 (by omega) hn1
  rw [h0] at f0
  rw [h1] at f1
  obtain ⟨f0, f0'⟩ := f0
  obtain ⟨f1, f1'⟩ := f1
  have oc2 := okPart_grow hG2
  have cc2 := cells_grow hG2
  have oo2 := one_grow hG2
  clear hf2 h0 h1
  try simp [*]
  repeat (first | with_reducible refine seq_k fun K hK => ?_ | (with_reducible refine region_k fun K hK => ?_; simp [*]) | (with_reducible refine region_drawT_k mixedO (by decide +kernel) fun K hK => ?_; simp [*]) | with_reducible refine pwp_block ?_ | with_reducible refine pwp_skip ?_ | with_reducible refine pwp_ret ?_ | with_reducible refine pwp_exit ?_ | (with_reducible refine cond_t ?_ ?_; (focus (simp [*]; done))) | (with_reducible refine cond_f ?_ ?_; (focus (simp [*]; done))) | with_reducible refine then_n ?_ | with_reducible refine then_r ?_ | with_reducible refine then_e ?_ | with_reducible refine then_g ?_ | with_reducible refine inB_n ?_ | with_reducible refine inB_r ?_ | with_reducible refine inB_e ?_ | with_reducible refine inB_o rfl ?_ | with_reducible refine inB_g ?_ | with_reducible refine Leads.go (by assumption) ?_)
  obtain ⟨H3, hH3⟩ : ∃ H3, (H2.put 0 (some (PObj.cells [d2]))).put 1 (some (PObj.cells [D.val (Value.int IntKind.i64 (m : Nat))])) = H3 := ⟨_, rfl⟩
  rw [hH3]
  have g0 : H3.get 0 = some (.cells [d2]) := by rw [← hH3]; simp
  have g1 : H3.get 1 = some (.cells [.val (.int .i64 (m : Nat))]) := by rw [← hH3]; simp
  have gG : Grow H3 d2 9 [sD (digits r)] := by rw [← hH3]; exact (hG2.put 0 _ f0').put 1 _ f1'
  have gn : 2 ≤ H3.nx := by rw [← hH3]; simp; omega
  clear hH3 f0 f1 hG2 q1 q2 q3 q4 q5 hD1
  have hl0 : (0 : Nat) < H3.nx := by omega
  have hne0 : ¬ (0 = H3.nx) := by omega
  have hne1 : ¬ (1 = H3.nx) := by omega
  refine region_tame_b mixedO H3.nx [2, 3] [0] ?_ fun K hK => ?_
  · decide +kernel
  simp [*, Low, List.range']
  refine PCalls.mono (hD2 _) ?_
  intro d3 H3 hd3
  rw [hd3.1, hd3.2]
  clear hd3
  try simp [*]
  refine oK_grow gG ?_ ?_
  · first | (simp; done) | (simp; omega) | omega
  intro d4 H4 hG4 hn4 hH4 hf4
  try simp [*]
  have k0 := hf4 0 (by omega) f0'
  have k1 := hf4 1 (by omega) f1'
  rw [g0] at k0
  rw [g1] at k1
  obtain ⟨k0, k0'⟩ := k0
  obtain ⟨k1, k1'⟩ := k1
  have oc4 := okPart_grow hG4
  have cc4 := cells_grow hG4
  have oo4 := one_grow hG4
  clear hf4 g0 g1 gG oc2 cc2 oo2
  try simp [*]
  repeat (first | with_reducible refine seq_k fun K hK => ?_ | (with_reducible refine region_k fun K hK => ?_; simp [*]) | (with_reducible refine region_drawT_k mixedO (by decide +kernel) fun K hK => ?_; simp [*]) | with_reducible refine pwp_block ?_ | with_reducible refine pwp_skip ?_ | with_reducible refine pwp_ret ?_ | with_reducible refine pwp_exit ?_ | (with_reducible refine cond_t ?_ ?_; (focus (simp [*]; done))) | (with_reducible refine cond_f ?_ ?_; (focus (simp [*]; done))) | with_reducible refine then_n ?_ | with_reducible refine then_r ?_ | with_reducible refine then_e ?_ | with_reducible refine then_g ?_ | with_reducible refine inB_n ?_ | with_reducible refine inB_r ?_ | with_reducible refine inB_e ?_ | with_reducible refine inB_o rfl ?_ | with_reducible refine inB_g ?_ | with_reducible refine Leads.go (by assumption) ?_)
  simp [retPost]
  refine ⟨d4, by simp, ?_, by simp, k0', k1', by simp; omega⟩
  exact (hG4.put 0 _ k0').put 1 _ k1'
/-- What the loop keeps, from what the bytes so far come to. -/
def RdAt (bs : By) (k : Nat) (H : Heap) : Prop := ∃ A n, rdLoop [] 0 (bs.take k) = some (A, n) ∧ RdInv A n H ∧ n ≤ 10000000079 ∧ A.length ≤ 18
theorem rd_small : ∀ (bs : By) (A : List Nat) (n : Nat) (A' : List Nat) (n' : Nat), rdLoop A n bs = some (A', n') → n ≤ 10000000079 → A.length ≤ 18 → n' ≤ 10000000079 ∧ A'.length ≤ 18
  | [], A, n, A', n', h, h1, h2 => by
    simp only [rdLoop, Option.some.injEq, Prod.mk.injEq] at h
    rw [← h.1, ← h.2]; exact ⟨h1, h2⟩
  | c :: bs, A, n, A', n', h, h1, h2 => by
    simp only [rdLoop, rdStep] at h
    split at h
    · rename_i q A2 n2 e
      split at e
      · cases e
      · split at e
        · cases e
          refine rd_small bs _ _ A' n' h (by omega) ?_
          unfold rdNext; split <;> simp <;> omega
        · cases e
          exact rd_small bs _ _ A' n' h (by omega) h2
    · cases h
theorem rd_elems : ∀ (bs : By) (A : List Nat) (n : Nat) (A' : List Nat) (n' : Nat), rdLoop A n bs = some (A', n') → (∀ m ∈ A, m < 100000000000) → ∀ m ∈ A', m < 100000000000
  | [], A, n, A', n', h, h1 => by
    simp only [rdLoop, Option.some.injEq, Prod.mk.injEq] at h
    rw [← h.1]; exact h1
  | c :: bs, A, n, A', n', h, h1 => by
    simp only [rdLoop, rdStep] at h
    split at h
    · rename_i q A2 n2 e
      split at e
      · cases e
      · split at e
        · cases e
          refine rd_elems bs _ _ A' n' h ?_
          intro m hm
          unfold rdNext at hm
          split at hm
          · simp only [List.mem_cons, List.mem_nil_iff, or_false] at hm
            rcases hm with rfl | rfl <;> omega
          · rcases List.mem_append.1 hm with hm | hm
            · exact h1 m hm
            · simp only [List.mem_cons, List.mem_nil_iff, or_false] at hm; omega
        · cases e
          exact rd_elems bs _ _ A' n' h h1
    · cases h
theorem rd_step_take (bs : By) (k : Nat) (c : UInt8) (hc : bs[k]? = some c) (A : List Nat) (n : Nat) (h : rdLoop [] 0 (bs.take k) = some (A, n)) : rdLoop [] 0 (bs.take (k + 1)) = rdStep A n c := by
  rw [List.take_add_one, hc, rdLoop_app, h]
  simp only [Option.toList, rdLoop]
  cases rdStep A n c <;> rfl
theorem rd_none : ∀ (x y : By) (A : List Nat) (n : Nat), rdLoop A n x = none → rdLoop A n (x ++ y) = none := fun x y A n h => by rw [rdLoop_app, h]
def readD (o : Option By) : D := match o with
  | some s => .tup [sD s, .val (.int .i64 0)]
  | none => .tup [sD [], .val (.int .i64 11)]
theorem or7 (n m : Nat) (hn : n ≤ 10000000079) (hm : m < 128) : IntKind.i64.wrap (((IntKind.i64.wrap ((n : Int) * 2 ^ 7) % 2 ^ IntKind.i64.bits).toNat ||| ((m : Int) % 2 ^ IntKind.i64.bits).toNat : Nat) : Int) = ((n * 128 + m : Nat) : Int) := by
  have e1 : IntKind.i64.wrap ((n : Int) * 2 ^ 7) = ((n * 128 : Nat) : Int) := by rw [wrapI _ (by omega) (by omega)]; omega
  have e2 : (((n * 128 : Nat) : Int) % 2 ^ IntKind.i64.bits).toNat = n * 128 := by
    have : (2 : Int) ^ IntKind.i64.bits = 18446744073709551616 := by decide
    rw [this]; omega
  have e3 : ((m : Int) % 2 ^ IntKind.i64.bits).toNat = m := by
    have : (2 : Int) ^ IntKind.i64.bits = 18446744073709551616 := by decide
    rw [this]; omega
  have e4 : n * 128 ||| m = n * 128 + m := by
    have := Nat.shiftLeft_add_eq_or_of_lt (b := m) (i := 7) hm n
    rw [Nat.shiftLeft_eq] at this
    exact this.symm
  rw [e1, e2, e3, e4, wrapI _ (by omega) (by omega)]
theorem and127 (c : UInt8) : IntKind.u8.wrap ((c.toNat % 2 ^ IntKind.u8.bits &&& 127 % 2 ^ IntKind.u8.bits : Nat) : Int) = ((c.toNat % 128 : Nat) : Int) := by
  have hc := c.toNat_lt
  have e1 : (2 : Nat) ^ IntKind.u8.bits = 256 := by decide
  have h2 : ∀ m : Nat, m < 256 → m % 256 &&& 127 % 256 = m % 128 := by decide +kernel
  rw [e1, h2 _ hc, wrapB _ (by omega) (by omega)]
theorem or128 (n m : Nat) (hn : n ≤ 10000000079) (hm : m < 128) : IntKind.i64.wrap ((n * 128 % 2 ^ IntKind.i64.bits ||| m % 2 ^ IntKind.i64.bits : Nat) : Int) = ((n * 128 + m : Nat) : Int) := by
  have e1 : (2 : Nat) ^ IntKind.i64.bits = 18446744073709551616 := by decide
  have e4 : n * 128 ||| m = n * 128 + m := by
    have := Nat.shiftLeft_add_eq_or_of_lt (b := m) (i := 7) hm n
    rw [Nat.shiftLeft_eq] at this
    exact this.symm
  rw [e1, Nat.mod_eq_of_lt (by omega), Nat.mod_eq_of_lt (by omega), e4, wrapI _ (by omega) (by omega)]
theorem read_none {bs : By} {k : Nat} (h : rdLoop [] 0 (bs.take (k + 1)) = none) : readM bs = none := by
  have := rd_none (bs.take (k + 1)) (bs.drop (k + 1)) [] 0 h
  rw [List.take_append_drop] at this
  unfold readM
  rw [this]
set_option maxHeartbeats 4000000 in
set_option maxRecDepth 100000 in
theorem Read_local (g e : Nat) (bs : By) (he : e = 5 ∨ bs = []) (hl : bs.length ≤ 100000) : PCalls Tryd.prog 9 [.slice g e (bs.map byD)] (noHeap noG) fun d _ => d = readD (readM bs) := by
  refine PCalls.of_pwp Tryd.call9 Tryd.func9 rfl (by simp [Tryd.ntmps9]) ?_
  rw [Tryd.ntmps9]
  have hml : (bs.map byD).length = bs.length := by simp
  obtain ⟨B, hB⟩ : ∃ B, bs.map byD = B := ⟨_, rfl⟩
  have kB := Hold.mk hB
  rw [hB] at hml ⊢
  repeat (first | with_reducible refine seq_k fun K hK => ?_ | (with_reducible refine region_k fun K hK => ?_; simp [*]) | (with_reducible refine region_drawT_k mixedO (by decide +kernel) fun K hK => ?_; simp [*]) | with_reducible refine pwp_block ?_ | with_reducible refine pwp_skip ?_ | with_reducible refine pwp_ret ?_ | with_reducible refine pwp_exit ?_ | (with_reducible refine cond_t ?_ ?_; (focus (simp [*]; done))) | (with_reducible refine cond_f ?_ ?_; (focus (simp [*]; done))) | with_reducible refine then_n ?_ | with_reducible refine then_r ?_ | with_reducible refine then_e ?_ | with_reducible refine then_g ?_ | with_reducible refine inB_n ?_ | with_reducible refine inB_r ?_ | with_reducible refine inB_e ?_ | with_reducible refine inB_o rfl ?_ | with_reducible refine inB_g ?_ | with_reducible refine Leads.go (by assumption) ?_)
  refine pwp_for (bs.length) (fun k st => st.env.n = 53 ∧ st.df = [] ∧ st.env.get 0 = .slice g e B ∧ st.env.get 4 = .ptr 0 0 ∧ st.env.get 5 = .ptr 1 0 ∧ st.env.get 6 = .clo (.func 23) [] [.ptr 0 0, .ptr 1 0] ∧ st.env.get 13 = .slice g e B ∧ st.env.get 14 = .val (.int .i64 (bs.length : Nat)) ∧ st.env.get 15 = .val (.int .i64 (k : Nat)) ∧ (RdAt bs k st.H)) ⟨by first | (simp; done) | (simp [*]; done), rfl, by first | (simp; done) | (simp [*]; done), by first | (simp; done) | (simp [*]; done), by first | (simp; done) | (simp [*]; done), by first | (simp; done) | (simp [*]; done), by first | (simp; done) | (simp [*]; done), by first | (simp; done) | (simp [*]; done), by first | (simp; done) | (simp [*]; done), ?_⟩ ?_ ?_
  · refine ⟨[], 0, rfl, ⟨.slice 1 0 [], ?_, Grow.nil _ _, ?_, ?_, ?_, ?_⟩, by omega, by simp⟩
    · simp
    · simp
    · intro e o n q; cases q
    · intro e o n q; cases q
    · simp
  · rintro k ⟨E, Hx, df⟩ hk ⟨en, edf, e0, e4, e5, e6, e13, e14, e15, eP⟩
    simp only at en edf e0 e4 e5 e6 e13 e14 e15
    subst edf
    have hki : (k : Int) < ((bs.length : Nat) : Int) := by omega
    have hkw := wrapSucc k (by omega)
    obtain ⟨A, n, hrd, hI, hn, hA⟩ := eP
    simp only at hI
    obtain ⟨d, h0, hG, h1, hn0, hn1, h2⟩ := hI
    have hk0 : e = 5 := by
      rcases he with h | h
      · exact h
      · subst h; simp at hk
    subst hk0
    obtain ⟨c, hc⟩ : ∃ c, bs[k]? = some c := ⟨_, List.getElem?_eq_getElem (by omega)⟩
    have bc : byteAt bs k = (c.toNat : Int) := byteAt_of hc
    have lc := toNat_lt c
    have hBk : B[k]? = some (byD c) := by rw [← hB, List.getElem?_map, hc]; rfl
    have hgd : B.getD k .undef = byD c := by rw [List.getD, hBk]; rfl
    have hgl := get_of hBk
    have hst := rd_step_take bs k c hc A n hrd
    simp only [byD] at hgd hgl
    simp only [natD] at h1
    have hlen := lenG36 hG
    rw [List.length_map] at hlen
    have a2 := and127 c
    have a4 := or128 n (c.toNat % 128) hn (by omega)
    have a1 : IntKind.i64.wrap ((n : Int) * 2 ^ min 7 IntKind.i64.bits) = ((n * 128 : Nat) : Int) := by
      have : (2 : Int) ^ min 7 IntKind.i64.bits = 128 := by decide
      rw [this, wrapI _ (by omega) (by omega)]; omega
    have a3 := wrapI ((c.toNat % 128 : Nat) : Int) (by omega) (by omega)
    have oc := okPart_grow hG
    have cc := cells_grow hG
    have oo := one_grow hG
    have hst' : rdStep A n c = if 10000000079 < n * 128 + c.toNat % 128 ∨ 16 < A.length then none else if c.toNat < 128 then some (rdNext A (n * 128 + c.toNat % 128), 0) else some (A, n * 128 + c.toNat % 128) := rfl
    have hwb : n * 128 + c.toNat % 128 < 9223372036854775808 := by omega
    have hAr := fun (hz : A = []) => ReadArc_first (n * 128 + c.toNat % 128) hwb
    have hAm := fun (hz : A ≠ []) (h17 : A.length ≤ 17) => ReadArc_more A (n * 128 + c.toNat % 128) h17 hz hwb
    generalize hm : c.toNat % 128 = m at *
    obtain ⟨w, hw⟩ : ∃ w, n * 128 + m = w := ⟨_, rfl⟩
    obtain ⟨nn, hnn⟩ : ∃ nn, n * 128 = nn := ⟨_, rfl⟩
    simp only [hw] at hAr hAm hst' a4 hwb
    simp only [hnn] at a1 a4
    have hne01 : ¬ ((1 : Nat) = 0) := by decide
    have kp := Hold.mk (And.intro hAr (And.intro hAm (And.intro hst hst')))
    clear hAr hAm hst hst' hB
    by_cases hb1 : 10000000079 < (w : Int)
    · have hrn : readM bs = none := by
        have ⟨_, _, h3, h4⟩ := kp.out
        exact read_none (h3.trans (by rw [h4, if_pos (.inl (by omega))]))
      repeat (first | with_reducible refine seq_k fun K hK => ?_ | (with_reducible refine region_k fun K hK => ?_; simp [*]) | (with_reducible refine region_drawT_k mixedO (by decide +kernel) fun K hK => ?_; simp [*]) | with_reducible refine pwp_block ?_ | with_reducible refine pwp_skip ?_ | with_reducible refine pwp_ret ?_ | with_reducible refine pwp_exit ?_ | (with_reducible refine cond_t ?_ ?_; (focus (simp [*]; done))) | (with_reducible refine cond_f ?_ ?_; (focus (simp [*]; done))) | with_reducible refine then_n ?_ | with_reducible refine then_r ?_ | with_reducible refine then_e ?_ | with_reducible refine then_g ?_ | with_reducible refine inB_n ?_ | with_reducible refine inB_r ?_ | with_reducible refine inB_e ?_ | with_reducible refine inB_o rfl ?_ | with_reducible refine inB_g ?_ | with_reducible refine Leads.go (by assumption) ?_)
      simp [*, readD]
    · by_cases hb2 : 16 < (A.length : Int)
      · have hrn : readM bs = none := by
          have ⟨_, _, h3, h4⟩ := kp.out
          exact read_none (h3.trans (by rw [h4, if_pos (.inr (by omega))]))
        repeat (first | with_reducible refine seq_k fun K hK => ?_ | (with_reducible refine region_k fun K hK => ?_; simp [*]) | (with_reducible refine region_drawT_k mixedO (by decide +kernel) fun K hK => ?_; simp [*]) | with_reducible refine pwp_block ?_ | with_reducible refine pwp_skip ?_ | with_reducible refine pwp_ret ?_ | with_reducible refine pwp_exit ?_ | (with_reducible refine cond_t ?_ ?_; (focus (simp [*]; done))) | (with_reducible refine cond_f ?_ ?_; (focus (simp [*]; done))) | with_reducible refine then_n ?_ | with_reducible refine then_r ?_ | with_reducible refine then_e ?_ | with_reducible refine then_g ?_ | with_reducible refine inB_n ?_ | with_reducible refine inB_r ?_ | with_reducible refine inB_e ?_ | with_reducible refine inB_o rfl ?_ | with_reducible refine inB_g ?_ | with_reducible refine Leads.go (by assumption) ?_)
        simp [*, readD]
      · by_cases hb3 : (c.toNat : Int) < 128
        · repeat (first | with_reducible refine seq_k fun K hK => ?_ | (with_reducible refine region_k fun K hK => ?_; simp [*]) | (with_reducible refine region_drawT_k mixedO (by decide +kernel) fun K hK => ?_; simp [*]) | with_reducible refine pwp_block ?_ | with_reducible refine pwp_skip ?_ | with_reducible refine pwp_ret ?_ | with_reducible refine pwp_exit ?_ | (with_reducible refine cond_t ?_ ?_; (focus (simp [*]; done))) | (with_reducible refine cond_f ?_ ?_; (focus (simp [*]; done))) | with_reducible refine then_n ?_ | with_reducible refine then_r ?_ | with_reducible refine then_e ?_ | with_reducible refine then_g ?_ | with_reducible refine inB_n ?_ | with_reducible refine inB_r ?_ | with_reducible refine inB_e ?_ | with_reducible refine inB_o rfl ?_ | with_reducible refine inB_g ?_ | with_reducible refine Leads.go (by assumption) ?_)
          have ⟨hr1, hr2, h3, h4⟩ := kp.out
          have hI2 : RdInv A w (Hx.put 1 (some (.cells [.val (.int .i64 (w : Nat))]))) := ⟨d, by rw [Heap.put_ne _ _ (by decide)]; exact h0, hG.put 1 _ hn1, Heap.put_same _ _ _, hn0, hn1, h2⟩
          have hcall : PCalls Tryd.prog 23 [.ptr 0 0, .ptr 1 0] (Hx.put 1 (some (.cells [.val (.int .i64 (w : Nat))]))) fun d H' => d = .tup [] ∧ RdInv (rdNext A w) 0 H' := by
            unfold rdNext
            by_cases hz : A = []
            · rw [if_pos hz]; exact hr1 hz _ (by rw [← hz]; exact hI2)
            · rw [if_neg hz]; exact hr2 hz (by omega) _ hI2
          have hst3 := h3.trans (h4.trans (by rw [if_neg (by omega), if_pos (by omega)]))
          have hsm := rd_small _ _ _ _ _ hst3 (by omega) (by simp)
          have kp2 := Hold.mk (And.intro hst3 hsm)
          clear hr1 hr2 h3 h4 hst3 hsm hI2
          refine PCalls.mono hcall ?_
          rintro d3 H3 ⟨rfl, hI3⟩
          clear hcall h0 h1 hG oc cc oo hlen
          try simp [*]
          repeat (first | with_reducible refine seq_k fun K hK => ?_ | (with_reducible refine region_k fun K hK => ?_; simp [*]) | (with_reducible refine region_drawT_k mixedO (by decide +kernel) fun K hK => ?_; simp [*]) | with_reducible refine pwp_block ?_ | with_reducible refine pwp_skip ?_ | with_reducible refine pwp_ret ?_ | with_reducible refine pwp_exit ?_ | (with_reducible refine cond_t ?_ ?_; (focus (simp [*]; done))) | (with_reducible refine cond_f ?_ ?_; (focus (simp [*]; done))) | with_reducible refine then_n ?_ | with_reducible refine then_r ?_ | with_reducible refine then_e ?_ | with_reducible refine then_g ?_ | with_reducible refine inB_n ?_ | with_reducible refine inB_r ?_ | with_reducible refine inB_e ?_ | with_reducible refine inB_o rfl ?_ | with_reducible refine inB_g ?_ | with_reducible refine Leads.go (by assumption) ?_)
          simp [*]
          exact ⟨_, 0, kp2.out.1, hI3, kp2.out.2.1, kp2.out.2.2⟩
        · repeat (first | with_reducible refine seq_k fun K hK => ?_ | (with_reducible refine region_k fun K hK => ?_; simp [*]) | (with_reducible refine region_drawT_k mixedO (by decide +kernel) fun K hK => ?_; simp [*]) | with_reducible refine pwp_block ?_ | with_reducible refine pwp_skip ?_ | with_reducible refine pwp_ret ?_ | with_reducible refine pwp_exit ?_ | (with_reducible refine cond_t ?_ ?_; (focus (simp [*]; done))) | (with_reducible refine cond_f ?_ ?_; (focus (simp [*]; done))) | with_reducible refine then_n ?_ | with_reducible refine then_r ?_ | with_reducible refine then_e ?_ | with_reducible refine then_g ?_ | with_reducible refine inB_n ?_ | with_reducible refine inB_r ?_ | with_reducible refine inB_e ?_ | with_reducible refine inB_o rfl ?_ | with_reducible refine inB_g ?_ | with_reducible refine Leads.go (by assumption) ?_)
          simp [*]
          have ⟨hr1, hr2, h3, h4⟩ := kp.out
          have hst3 := h3.trans (h4.trans (by rw [if_neg (by omega), if_neg (by omega)]))
          have hsm := rd_small _ _ _ _ _ hst3 (by omega) (by simp)
          exact ⟨A, w, hst3, ⟨d, by rw [Heap.put_ne _ _ (by decide)]; exact h0, hG.put 1 _ hn1, Heap.put_same _ _ _, hn0, hn1, h2⟩, hsm.1, hsm.2⟩
  · rintro ⟨E, Hx, df⟩ ⟨en, edf, e0, e4, e5, e6, e13, e14, e15, eP⟩
    simp only at en edf e0 e4 e5 e6 e13 e14 e15
    subst edf
    obtain ⟨A, n, hrd, ⟨d, h0, hG, h1, hn0, hn1, h2⟩, hn, hA⟩ := eP
    simp only [List.take_length] at hrd h0 h1 h2 hG
    have hel := rd_elems _ _ _ _ _ hrd (by simp)
    have htl := text_len A hel
    have hmm : (A.map fun m => sD (digits m)) = (A.map digits).map sD := by rw [List.map_map]; rfl
    rw [hmm] at hG
    have hJ := Join_spec d (A.map digits) 46 Hx hG (by simp; omega) (by show (textM A).length ≤ _; omega)
    have hP := Put_spec (textM A) (by omega)
    have hread : readM bs = if putM (textM A) = some bs then some (textM A) else none := by unfold readM; rw [hrd]
    have oc := okPart_grow hG
    have cc := cells_grow hG
    have oo := one_grow hG
    have kp := Hold.mk hread
    have hjt : joinB 46 (A.map digits) = textM A := rfl
    rw [hjt] at hJ
    clear hread hrd hel hmm hjt hB
    generalize textM A = s at *
    rcases hpm : putM s with _ | b2
    · have hrn : readM bs = none := by rw [kp.out, hpm]; rfl
      rw [hpm] at hP
      simp only [putD] at hP
      clear kp hpm
      repeat (first | with_reducible refine seq_k fun K hK => ?_ | (with_reducible refine region_k fun K hK => ?_; simp [*]) | (with_reducible refine region_drawT_k mixedO (by decide +kernel) fun K hK => ?_; simp [*]) | with_reducible refine pwp_block ?_ | with_reducible refine pwp_skip ?_ | with_reducible refine pwp_ret ?_ | with_reducible refine pwp_exit ?_ | (with_reducible refine cond_t ?_ ?_; (focus (simp [*]; done))) | (with_reducible refine cond_f ?_ ?_; (focus (simp [*]; done))) | with_reducible refine then_n ?_ | with_reducible refine then_r ?_ | with_reducible refine then_e ?_ | with_reducible refine then_g ?_ | with_reducible refine inB_n ?_ | with_reducible refine inB_r ?_ | with_reducible refine inB_e ?_ | with_reducible refine inB_o rfl ?_ | with_reducible refine inB_g ?_ | with_reducible refine Leads.go (by assumption) ?_)
      refine PCalls.mono (hJ) ?_
      intro d3 H3 hd3
      rw [hd3.1, hd3.2]
      clear hd3
      try simp [*]
      repeat (first | with_reducible refine seq_k fun K hK => ?_ | (with_reducible refine region_k fun K hK => ?_; simp [*]) | (with_reducible refine region_drawT_k mixedO (by decide +kernel) fun K hK => ?_; simp [*]) | with_reducible refine pwp_block ?_ | with_reducible refine pwp_skip ?_ | with_reducible refine pwp_ret ?_ | with_reducible refine pwp_exit ?_ | (with_reducible refine cond_t ?_ ?_; (focus (simp [*]; done))) | (with_reducible refine cond_f ?_ ?_; (focus (simp [*]; done))) | with_reducible refine then_n ?_ | with_reducible refine then_r ?_ | with_reducible refine then_e ?_ | with_reducible refine then_g ?_ | with_reducible refine inB_n ?_ | with_reducible refine inB_r ?_ | with_reducible refine inB_e ?_ | with_reducible refine inB_o rfl ?_ | with_reducible refine inB_g ?_ | with_reducible refine Leads.go (by assumption) ?_)
      refine PCalls.mono (hP _) ?_
      intro d3 H3 hd3
      rw [hd3.1, hd3.2]
      clear hd3
      try simp [*]
      repeat (first | with_reducible refine seq_k fun K hK => ?_ | (with_reducible refine region_k fun K hK => ?_; simp [*]) | (with_reducible refine region_drawT_k mixedO (by decide +kernel) fun K hK => ?_; simp [*]) | with_reducible refine pwp_block ?_ | with_reducible refine pwp_skip ?_ | with_reducible refine pwp_ret ?_ | with_reducible refine pwp_exit ?_ | (with_reducible refine cond_t ?_ ?_; (focus (simp [*]; done))) | (with_reducible refine cond_f ?_ ?_; (focus (simp [*]; done))) | with_reducible refine then_n ?_ | with_reducible refine then_r ?_ | with_reducible refine then_e ?_ | with_reducible refine then_g ?_ | with_reducible refine inB_n ?_ | with_reducible refine inB_r ?_ | with_reducible refine inB_e ?_ | with_reducible refine inB_o rfl ?_ | with_reducible refine inB_g ?_ | with_reducible refine Leads.go (by assumption) ?_)
      simp [*, readD]
    · rw [hpm] at hP
      simp only [putD] at hP
      have hE := bytesEqual_spec 0 5 g e b2 bs (.inl rfl) he
      rw [kB.out] at hE
      by_cases hbb : b2 = bs
      · have hrn : readM bs = some s := by rw [kp.out, hpm, if_pos (by rw [hbb])]
        rw [decide_eq_true hbb] at hE
        clear kp hpm hbb
        repeat (first | with_reducible refine seq_k fun K hK => ?_ | (with_reducible refine region_k fun K hK => ?_; simp [*]) | (with_reducible refine region_drawT_k mixedO (by decide +kernel) fun K hK => ?_; simp [*]) | with_reducible refine pwp_block ?_ | with_reducible refine pwp_skip ?_ | with_reducible refine pwp_ret ?_ | with_reducible refine pwp_exit ?_ | (with_reducible refine cond_t ?_ ?_; (focus (simp [*]; done))) | (with_reducible refine cond_f ?_ ?_; (focus (simp [*]; done))) | with_reducible refine then_n ?_ | with_reducible refine then_r ?_ | with_reducible refine then_e ?_ | with_reducible refine then_g ?_ | with_reducible refine inB_n ?_ | with_reducible refine inB_r ?_ | with_reducible refine inB_e ?_ | with_reducible refine inB_o rfl ?_ | with_reducible refine inB_g ?_ | with_reducible refine Leads.go (by assumption) ?_)
        refine PCalls.mono (hJ) ?_
        intro d3 H3 hd3
        rw [hd3.1, hd3.2]
        clear hd3
        try simp [*]
        repeat (first | with_reducible refine seq_k fun K hK => ?_ | (with_reducible refine region_k fun K hK => ?_; simp [*]) | (with_reducible refine region_drawT_k mixedO (by decide +kernel) fun K hK => ?_; simp [*]) | with_reducible refine pwp_block ?_ | with_reducible refine pwp_skip ?_ | with_reducible refine pwp_ret ?_ | with_reducible refine pwp_exit ?_ | (with_reducible refine cond_t ?_ ?_; (focus (simp [*]; done))) | (with_reducible refine cond_f ?_ ?_; (focus (simp [*]; done))) | with_reducible refine then_n ?_ | with_reducible refine then_r ?_ | with_reducible refine then_e ?_ | with_reducible refine then_g ?_ | with_reducible refine inB_n ?_ | with_reducible refine inB_r ?_ | with_reducible refine inB_e ?_ | with_reducible refine inB_o rfl ?_ | with_reducible refine inB_g ?_ | with_reducible refine Leads.go (by assumption) ?_)
        refine PCalls.mono (hP _) ?_
        intro d3 H3 hd3
        rw [hd3.1, hd3.2]
        clear hd3
        try simp [*]
        repeat (first | with_reducible refine seq_k fun K hK => ?_ | (with_reducible refine region_k fun K hK => ?_; simp [*]) | (with_reducible refine region_drawT_k mixedO (by decide +kernel) fun K hK => ?_; simp [*]) | with_reducible refine pwp_block ?_ | with_reducible refine pwp_skip ?_ | with_reducible refine pwp_ret ?_ | with_reducible refine pwp_exit ?_ | (with_reducible refine cond_t ?_ ?_; (focus (simp [*]; done))) | (with_reducible refine cond_f ?_ ?_; (focus (simp [*]; done))) | with_reducible refine then_n ?_ | with_reducible refine then_r ?_ | with_reducible refine then_e ?_ | with_reducible refine then_g ?_ | with_reducible refine inB_n ?_ | with_reducible refine inB_r ?_ | with_reducible refine inB_e ?_ | with_reducible refine inB_o rfl ?_ | with_reducible refine inB_g ?_ | with_reducible refine Leads.go (by assumption) ?_)
        refine PCalls.mono (hE _) ?_
        intro d3 H3 hd3
        rw [hd3.1, hd3.2]
        clear hd3
        try simp [*]
        try simp [*]
        repeat (first | with_reducible refine seq_k fun K hK => ?_ | (with_reducible refine region_k fun K hK => ?_; simp [*]) | (with_reducible refine region_drawT_k mixedO (by decide +kernel) fun K hK => ?_; simp [*]) | with_reducible refine pwp_block ?_ | with_reducible refine pwp_skip ?_ | with_reducible refine pwp_ret ?_ | with_reducible refine pwp_exit ?_ | (with_reducible refine cond_t ?_ ?_; (focus (simp [*]; done))) | (with_reducible refine cond_f ?_ ?_; (focus (simp [*]; done))) | with_reducible refine then_n ?_ | with_reducible refine then_r ?_ | with_reducible refine then_e ?_ | with_reducible refine then_g ?_ | with_reducible refine inB_n ?_ | with_reducible refine inB_r ?_ | with_reducible refine inB_e ?_ | with_reducible refine inB_o rfl ?_ | with_reducible refine inB_g ?_ | with_reducible refine Leads.go (by assumption) ?_)
        simp [*, readD]
      · have hrn : readM bs = none := by rw [kp.out, hpm, if_neg (by simpa using hbb)]
        rw [decide_eq_false hbb] at hE
        clear kp hpm hbb
        repeat (first | with_reducible refine seq_k fun K hK => ?_ | (with_reducible refine region_k fun K hK => ?_; simp [*]) | (with_reducible refine region_drawT_k mixedO (by decide +kernel) fun K hK => ?_; simp [*]) | with_reducible refine pwp_block ?_ | with_reducible refine pwp_skip ?_ | with_reducible refine pwp_ret ?_ | with_reducible refine pwp_exit ?_ | (with_reducible refine cond_t ?_ ?_; (focus (simp [*]; done))) | (with_reducible refine cond_f ?_ ?_; (focus (simp [*]; done))) | with_reducible refine then_n ?_ | with_reducible refine then_r ?_ | with_reducible refine then_e ?_ | with_reducible refine then_g ?_ | with_reducible refine inB_n ?_ | with_reducible refine inB_r ?_ | with_reducible refine inB_e ?_ | with_reducible refine inB_o rfl ?_ | with_reducible refine inB_g ?_ | with_reducible refine Leads.go (by assumption) ?_)
        refine PCalls.mono (hJ) ?_
        intro d3 H3 hd3
        rw [hd3.1, hd3.2]
        clear hd3
        try simp [*]
        repeat (first | with_reducible refine seq_k fun K hK => ?_ | (with_reducible refine region_k fun K hK => ?_; simp [*]) | (with_reducible refine region_drawT_k mixedO (by decide +kernel) fun K hK => ?_; simp [*]) | with_reducible refine pwp_block ?_ | with_reducible refine pwp_skip ?_ | with_reducible refine pwp_ret ?_ | with_reducible refine pwp_exit ?_ | (with_reducible refine cond_t ?_ ?_; (focus (simp [*]; done))) | (with_reducible refine cond_f ?_ ?_; (focus (simp [*]; done))) | with_reducible refine then_n ?_ | with_reducible refine then_r ?_ | with_reducible refine then_e ?_ | with_reducible refine then_g ?_ | with_reducible refine inB_n ?_ | with_reducible refine inB_r ?_ | with_reducible refine inB_e ?_ | with_reducible refine inB_o rfl ?_ | with_reducible refine inB_g ?_ | with_reducible refine Leads.go (by assumption) ?_)
        refine PCalls.mono (hP _) ?_
        intro d3 H3 hd3
        rw [hd3.1, hd3.2]
        clear hd3
        try simp [*]
        repeat (first | with_reducible refine seq_k fun K hK => ?_ | (with_reducible refine region_k fun K hK => ?_; simp [*]) | (with_reducible refine region_drawT_k mixedO (by decide +kernel) fun K hK => ?_; simp [*]) | with_reducible refine pwp_block ?_ | with_reducible refine pwp_skip ?_ | with_reducible refine pwp_ret ?_ | with_reducible refine pwp_exit ?_ | (with_reducible refine cond_t ?_ ?_; (focus (simp [*]; done))) | (with_reducible refine cond_f ?_ ?_; (focus (simp [*]; done))) | with_reducible refine then_n ?_ | with_reducible refine then_r ?_ | with_reducible refine then_e ?_ | with_reducible refine then_g ?_ | with_reducible refine inB_n ?_ | with_reducible refine inB_r ?_ | with_reducible refine inB_e ?_ | with_reducible refine inB_o rfl ?_ | with_reducible refine inB_g ?_ | with_reducible refine Leads.go (by assumption) ?_)
        refine PCalls.mono (hE _) ?_
        intro d3 H3 hd3
        rw [hd3.1, hd3.2]
        clear hd3
        try simp [*]
        try simp [*]
        repeat (first | with_reducible refine seq_k fun K hK => ?_ | (with_reducible refine region_k fun K hK => ?_; simp [*]) | (with_reducible refine region_drawT_k mixedO (by decide +kernel) fun K hK => ?_; simp [*]) | with_reducible refine pwp_block ?_ | with_reducible refine pwp_skip ?_ | with_reducible refine pwp_ret ?_ | with_reducible refine pwp_exit ?_ | (with_reducible refine cond_t ?_ ?_; (focus (simp [*]; done))) | (with_reducible refine cond_f ?_ ?_; (focus (simp [*]; done))) | with_reducible refine then_n ?_ | with_reducible refine then_r ?_ | with_reducible refine then_e ?_ | with_reducible refine then_g ?_ | with_reducible refine inB_n ?_ | with_reducible refine inB_r ?_ | with_reducible refine inB_e ?_ | with_reducible refine inB_o rfl ?_ | with_reducible refine inB_g ?_ | with_reducible refine Leads.go (by assumption) ?_)
        simp [*, readD]
theorem Read_spec (g e : Nat) (bs : By) (he : e = 5 ∨ bs = []) (hl : bs.length ≤ 100000) (H : Heap) : PCalls Tryd.prog 9 [.slice g e (bs.map byD)] H fun d H' => d = readD (readM bs) ∧ H' = H :=
  PCalls.liftG (Read_local g e bs he hl) (fun d hd => by
    simp only [List.mem_cons, List.mem_nil_iff, or_false] at hd
    subst hd; exact pure_vals (fun c : UInt8 => .int .u8 (c.toNat : Nat)) _ _ bs) (by
    rcases readM bs with _ | s <;> (refine .tup _ fun d hd => ?_) <;> (simp only [List.mem_cons, List.mem_nil_iff, or_false] at hd; rcases hd with rfl | rfl <;> exact .val _)) H
end Go.Pv
