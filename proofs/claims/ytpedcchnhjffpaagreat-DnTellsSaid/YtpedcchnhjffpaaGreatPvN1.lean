/- A part of the proof: functions of the program, walked, or what operations come to. -/
import Derived.Test.YtpedcchnhjffpaaGreatPvGen
import Derived.Test.YtpedcchnhjffpaaGreatPvApp
import Derived.Lib.Bytealg
import Derived.Lib.Join
import Derived.Lib.SlicesCompact
/-! ### Digits, and parts of a text: plain laws -/
namespace Go.Pv
abbrev By := List UInt8
theorem snocRec {α : Type} {p : List α → Prop} (l : List α) (nil : p []) (append_singleton : ∀ l a, p l → p (l ++ [a])) : p l := by
  rw [← List.reverse_reverse l]
  induction l.reverse with
  | nil => exact nil
  | cons a m ih => rw [List.reverse_cons]; exact append_singleton _ _ ih
def sD (l : By) : D := .val (.string ⟨l.toArray⟩)
theorem byteAt_of {l : List UInt8} {k : Nat} {c : UInt8} (h : l[k]? = some c) : byteAt l k = (c.toNat : Int) := by simp [byteAt, List.getD, h]
theorem toNat_lt (c : UInt8) : c.toNat < 256 := c.toNat_lt
/-- The first byte. -/
def hd0 (l : By) : UInt8 := l.headD 0
@[simp] theorem hd0_cons (c : UInt8) (l : By) : hd0 (c :: l) = c := rfl
theorem hd0_of {l : By} {c : UInt8} (h : l[0]? = some c) : hd0 l = c := by cases l with | nil => cases h | cons a l => simpa [hd0] using h
def isDig (c : UInt8) : Bool := decide (48 ≤ c.toNat ∧ c.toNat ≤ 57)
def digVal (l : By) : Nat := l.foldl (fun n c => n * 10 + (c.toNat - 48)) 0
def numOk (l : By) : Bool := !l.isEmpty && l.all isDig && decide (l.length ≤ 18) && (decide (l.length ≤ 1) || decide (hd0 l ≠ 48))
def readDigits (l : By) : Option Nat := if numOk l = true then some (digVal l) else none
def digits (n : Nat) : By := if h : n < 10 then [UInt8.ofNat (48 + n)] else digits (n / 10) ++ [UInt8.ofNat (48 + n % 10)]
theorem digits_lt (n : Nat) (h : n < 10) : digits n = [UInt8.ofNat (48 + n)] := by rw [digits, dif_pos h]
theorem digits_ge (n : Nat) (h : ¬ n < 10) : digits n = digits (n / 10) ++ [UInt8.ofNat (48 + n % 10)] := by rw [digits, dif_neg h]
theorem dig_nat (k : Nat) (h : k < 10) : (UInt8.ofNat (48 + k)).toNat = 48 + k := by simp [UInt8.toNat_ofNat]; omega
theorem digits_all (n : Nat) : (digits n).all isDig = true := by
  induction n using Nat.strongRecOn with
  | _ n ih =>
    by_cases h : n < 10
    · rw [digits_lt n h]; simp only [List.all_cons, List.all_nil, Bool.and_true, isDig, dig_nat n h]; simp; omega
    · rw [digits_ge n h, List.all_append, ih (n / 10) (by omega)]
      simp only [List.all_cons, List.all_nil, Bool.and_true, isDig, dig_nat (n % 10) (by omega)]; simp; omega
theorem digits_ne (n : Nat) : digits n ≠ [] := by
  by_cases h : n < 10
  · rw [digits_lt n h]; simp
  · rw [digits_ge n h]; simp
@[simp] theorem digVal_nil : digVal [] = 0 := rfl
theorem digVal_snoc (l : By) (c : UInt8) : digVal (l ++ [c]) = digVal l * 10 + (c.toNat - 48) := by simp [digVal]
theorem digVal_digits (n : Nat) : digVal (digits n) = n := by
  induction n using Nat.strongRecOn with
  | _ n ih =>
    by_cases h : n < 10
    · rw [digits_lt n h]; simp only [digVal, List.foldl_cons, List.foldl_nil, dig_nat n h]; omega
    · rw [digits_ge n h, digVal_snoc, ih (n / 10) (by omega), dig_nat _ (by omega)]; omega
theorem digits_len (k : Nat) : ∀ n, n < 10 ^ (k + 1) → (digits n).length ≤ k + 1 := by
  induction k with
  | zero => intro n h; rw [digits_lt n (by simpa using h)]; simp
  | succ k ih =>
    intro n h
    by_cases h1 : n < 10
    · rw [digits_lt n h1]; simp
    · rw [digits_ge n h1, List.length_append]
      have := ih (n / 10) (by have : 10 ^ (k + 1 + 1) = 10 ^ (k + 1) * 10 := Nat.pow_succ ..; omega)
      simp; omega
theorem digits_head (n : Nat) (h : 0 < n) : hd0 (digits n) ≠ 48 := by
  induction n using Nat.strongRecOn with
  | _ n ih =>
    by_cases h1 : n < 10
    · rw [digits_lt n h1]
      simp only [hd0_cons]
      intro e
      have := congrArg UInt8.toNat e
      rw [dig_nat n h1] at this
      have e48 : (48 : UInt8).toNat = 48 := rfl
      omega
    · rw [digits_ge n h1]
      have h2 := ih (n / 10) (by omega) (by omega)
      cases hd : digits (n / 10) with
      | nil => exact absurd hd (digits_ne _)
      | cons a l => rw [hd] at h2; simpa using h2
theorem read_digits (n : Nat) (h : n < 10 ^ 18) : readDigits (digits n) = some n := by
  unfold readDigits
  rw [if_pos, digVal_digits]
  have h1 : (digits n).length ≤ 18 := digits_len 17 n h
  have h2 := digits_ne n
  simp only [numOk, digits_all, Bool.and_true, Bool.and_eq_true, Bool.not_eq_true', List.isEmpty_eq_false_iff, decide_eq_true_eq, Bool.or_eq_true]
  refine ⟨⟨h2, h1⟩, ?_⟩
  rcases Nat.eq_zero_or_pos n with rfl | h3
  · left; rw [digits_lt 0 (by omega)]; simp
  · exact .inr (digits_head n h3)
theorem digVal_pos (l : By) (h : l.all isDig = true) (h0 : l ≠ []) (h1 : hd0 l ≠ 48) : 0 < digVal l := by
  induction l using snocRec with
  | nil => exact absurd rfl h0
  | append_singleton l c ih =>
    rw [digVal_snoc]
    rw [List.all_append, Bool.and_eq_true] at h
    by_cases h2 : l = []
    · subst h2
      simp only [List.nil_append, hd0_cons] at h1
      have hc : isDig c = true := by simpa using h.2
      simp only [isDig, decide_eq_true_eq] at hc
      have : c.toNat ≠ 48 := fun e => h1 (UInt8.toNat_inj.1 (by rw [e]; rfl))
      omega
    · have := ih h.1 h2 (by cases l with | nil => exact absurd rfl h2 | cons a l => simpa using h1)
      omega
theorem digits_digVal : ∀ (l : By), l.all isDig = true → l ≠ [] → (l.length ≤ 1 ∨ hd0 l ≠ 48) → digits (digVal l) = l := by
  intro l
  induction l using snocRec with
  | nil => intro _ h; exact absurd rfl h
  | append_singleton l c ih =>
    intro h h0 h1
    rw [List.all_append, Bool.and_eq_true] at h
    have hc : isDig c = true := by simpa using h.2
    simp only [isDig, decide_eq_true_eq] at hc
    have hcc : UInt8.ofNat (48 + (c.toNat - 48)) = c := by
      rw [show 48 + (c.toNat - 48) = c.toNat by omega]; exact UInt8.ofNat_toNat
    rw [digVal_snoc]
    by_cases h2 : l = []
    · subst h2
      rw [digits_lt _ (by simp [digVal]; omega)]
      simp [digVal, hcc]
    · have h3 : hd0 l ≠ 48 := by
        rcases h1 with h1 | h1
        · have hz : l.length ≠ 0 := fun q => h2 (List.eq_nil_of_length_eq_zero q)
          rw [List.length_append, List.length_singleton] at h1; omega
        · cases l with | nil => exact absurd rfl h2 | cons a l => simpa using h1
      have hp := digVal_pos l h.1 h2 h3
      rw [digits_ge _ (by omega), show (digVal l * 10 + (c.toNat - 48)) / 10 = digVal l by omega, show (digVal l * 10 + (c.toNat - 48)) % 10 = c.toNat - 48 by omega, ih h.1 h2 (.inr h3), hcc]
theorem digits_read {l : By} {n : Nat} (h : readDigits l = some n) : digits n = l := by
  unfold readDigits at h
  split at h
  · cases h
    rename_i h
    simp only [numOk, Bool.and_eq_true, Bool.not_eq_true', List.isEmpty_eq_false_iff, decide_eq_true_eq, Bool.or_eq_true] at h
    exact digits_digVal l h.1.1.2 h.1.1.1 h.2
  · cases h
theorem digVal_lt (l : By) (ha : l.all isDig = true) : digVal l < 10 ^ l.length := by
  induction l using snocRec with
  | nil => simp [digVal]
  | append_singleton l c ih =>
    rw [List.all_append, Bool.and_eq_true] at ha
    have := ih ha.1
    have hc : isDig c = true := by simpa using ha.2
    simp only [isDig, decide_eq_true_eq] at hc
    rw [digVal_snoc, List.length_append, List.length_singleton, Nat.pow_succ]
    omega
theorem wrapI (z : Int) (h1 : -9223372036854775808 ≤ z) (h2 : z ≤ 9223372036854775807) : IntKind.i64.wrap z = z := by
  simp [IntKind.wrap, IntKind.bits, IntKind.signed]; omega
theorem wrapB (z : Int) (h1 : 0 ≤ z) (h2 : z ≤ 255) : IntKind.u8.wrap z = z := by
  simp [IntKind.wrap, IntKind.bits, IntKind.signed]; omega
theorem digVal_take (l : By) (k : Nat) (c : UInt8) (h : l[k]? = some c) : digVal (l.take (k + 1)) = digVal (l.take k) * 10 + (c.toNat - 48) := by
  rw [List.take_add_one, h]; exact digVal_snoc _ _
theorem readDigits_lt {l : By} {n : Nat} (h : readDigits l = some n) : n < 10 ^ l.length := by
  unfold readDigits at h
  split at h
  · cases h
    rename_i h
    simp only [numOk, Bool.and_eq_true] at h
    have ha := h.1.1.2
    clear h
    induction l using snocRec with
    | nil => simp [digVal]
    | append_singleton l c ih =>
      rw [List.all_append, Bool.and_eq_true] at ha
      have := ih ha.1
      have hc : isDig c = true := by simpa using ha.2
      simp only [isDig, decide_eq_true_eq] at hc
      rw [digVal_snoc, List.length_append, List.length_singleton, Nat.pow_succ]
      omega
  · cases h
/-! Parts between signs. -/
def splitB (c : UInt8) : By → List By
  | [] => [[]]
  | x :: l => if x = c then [] :: splitB c l else match splitB c l with
    | p :: ps => (x :: p) :: ps
    | [] => [[x]]
def joinB (c : UInt8) : List By → By
  | [] => []
  | [p] => p
  | p :: q :: ps => p ++ c :: joinB c (q :: ps)
theorem splitB_ne (c : UInt8) (l : By) : splitB c l ≠ [] := by
  cases l with
  | nil => simp [splitB]
  | cons x l => simp only [splitB]; split; · simp
                split <;> simp
theorem joinB_cons (c : UInt8) (p : By) (ps : List By) (h : ps ≠ []) : joinB c (p :: ps) = p ++ c :: joinB c ps := by
  cases ps with
  | nil => exact absurd rfl h
  | cons q ps => rfl
theorem join_split (c : UInt8) : ∀ l, joinB c (splitB c l) = l
  | [] => rfl
  | x :: l => by
    have ih := join_split c l
    simp only [splitB]
    split
    · rename_i e; subst e
      rw [joinB_cons _ _ _ (splitB_ne _ _), ih]; rfl
    · cases h : splitB c l with
      | nil => exact absurd h (splitB_ne _ _)
      | cons p ps =>
        rw [h] at ih
        simp only
        cases ps with
        | nil => simp only [joinB] at ih ⊢; rw [ih]
        | cons q ps => rw [joinB_cons _ _ _ (by simp)] at ih ⊢; rw [← ih]; rfl
theorem splitB_free (c : UInt8) : ∀ l, ∀ p ∈ splitB c l, c ∉ p
  | [] => by simp [splitB]
  | x :: l => by
    have ih := splitB_free c l
    simp only [splitB]
    split
    · intro p hp
      rcases List.mem_cons.1 hp with rfl | hp
      · simp
      · exact ih p hp
    · rename_i hne
      cases h : splitB c l with
      | nil => exact absurd h (splitB_ne _ _)
      | cons q ps =>
        rw [h] at ih
        intro p hp
        rcases List.mem_cons.1 hp with rfl | hp
        · intro hm
          rcases List.mem_cons.1 hm with e | hm
          · exact hne e.symm
          · exact ih q (by simp) hm
        · exact ih p (by simp [hp])
theorem splitB_plain (c : UInt8) : ∀ p : By, c ∉ p → splitB c p = [p]
  | [], _ => rfl
  | x :: p, h => by
    have h1 : x ≠ c := fun e => h (by simp [e])
    rw [splitB, if_neg h1, splitB_plain c p (fun q => h (by simp [q]))]
theorem splitB_app (c : UInt8) : ∀ (p l : By), c ∉ p → splitB c (p ++ c :: l) = p :: splitB c l
  | [], l, _ => by simp [splitB]
  | x :: p, l, h => by
    have h1 : x ≠ c := fun e => h (by simp [e])
    rw [List.cons_append, splitB, if_neg h1, splitB_app c p l (fun q => h (by simp [q]))]
theorem split_join (c : UInt8) : ∀ ps : List By, ps ≠ [] → (∀ p ∈ ps, c ∉ p) → splitB c (joinB c ps) = ps
  | [], h, _ => absurd rfl h
  | [p], _, h => splitB_plain c p (h p (by simp))
  | p :: q :: ps, _, h => by
    rw [joinB_cons _ _ _ (by simp), splitB_app c p _ (h p (by simp)), split_join c (q :: ps) (by simp) (fun x hx => h x (by simp [hx]))]
end Go.Pv
/-! ### Slices that grow -/
namespace Go.Pv
@[simp] theorem noHeap_nx (G : Nat → Option (List D)) : (noHeap G).nx = 0 := rfl
@[simp] theorem okPart_by (c : UInt8) : okPart (byD c) = true := rfl
@[simp] theorem cellsD_by (c : UInt8) : cellsD (byD c) = [byD c] := rfl
@[simp] theorem oneD_by (c : UInt8) : oneD (byD c) = true := rfl
/-- A slice that grows: nil, or a row of the call's own. -/
def Grow (H : Heap) (d : D) (e : TypeId) (l : List D) : Prop := (l = [] ∧ d = .slice 1 0 []) ∨ ∃ i, i < H.nx ∧ d = .row i e 0 l.length ∧ H.get i = some (.row e l) ∧ l ≠ []
/-- It isn't object j. -/
def NotIt (d : D) (j : Nat) : Prop := ∀ e o n, d ≠ .row j e o n
theorem Grow.nil (H : Heap) (e : TypeId) : Grow H (.slice 1 0 []) e [] := .inl ⟨rfl, rfl⟩
theorem Grow.new {H : Heap} {d : D} {e : TypeId} {l : List D} (h : Grow H d e l) (o : PObj) : Grow (H.new o) d e l := by
  rcases h with h | ⟨i, h1, h2, h3⟩
  · exact .inl h
  · exact .inr ⟨i, by rw [Heap.new_nx]; omega, h2, by rw [Heap.new_ne _ _ (by omega)]; exact h3.1, h3.2⟩
theorem NotIt.new {H : Heap} {d : D} {e : TypeId} {l : List D} (h : Grow H d e l) : NotIt d H.nx := by
  rcases h with ⟨_, h⟩ | ⟨i, h1, h2, h3⟩
  · intro e o n q; rw [h] at q; cases q
  · intro e o n q; rw [h2] at q; cases q; omega
theorem grow_app {H : Heap} {d : D} {e b : Nat} {l m : List D} (h : Grow H d e l) (hm : m ≠ []) (hb : (l.length + m.length) * b ≤ 140737488355328) :
    ∃ d' H', appK e b d (some m) H = some (d', H') ∧ Grow H' d' e (l ++ m) ∧ H'.nx = H.nx + 1 ∧ H'.G = H.G ∧ ∀ j, j < H.nx → NotIt d j → H'.get j = H.get j ∧ NotIt d' j := by
  have he : m.isEmpty = false := by cases m with | nil => exact absurd rfl hm | cons a m => rfl
  rcases h with ⟨rfl, rfl⟩ | ⟨i, h1, rfl, h3, h0⟩
  · refine ⟨.row H.nx e 0 m.length, H.new (.row e m), ?_, ?_, rfl, rfl, ?_⟩
    · simp only [List.length_nil, Nat.zero_add] at hb
      simp [appK, isSliceD, he, onto, hb]
    · exact .inr ⟨H.nx, by simp, by simp, by simp, by simpa using hm⟩
    · intro j hj hn
      refine ⟨Heap.new_ne _ _ (by omega), fun e o n q => ?_⟩
      cases q; omega
  · refine ⟨.row H.nx e 0 (l.length + m.length), (H.put i none).new (.row e (l ++ m)), ?_, ?_, rfl, rfl, ?_⟩
    · simp [appK, isSliceD, he, onto, hb, h3]
    · exact .inr ⟨H.nx, by simp, by simp, Heap.new_same (H.put i none) _, by simp [h0]⟩
    · intro j hj hn
      have hji : j ≠ i := fun q => hn e 0 l.length (by rw [q])
      refine ⟨by rw [Heap.new_ne _ _ (by simp; omega), Heap.put_ne _ _ hji], fun e o n q => ?_⟩
      cases q; omega
/-- One element more, laid in a row of its own ahead of that. -/
theorem grow_one {H : Heap} {d : D} {e b : Nat} {l : List D} (x : D) (h : Grow H d e l) (hb : (l.length + 1) * b ≤ 140737488355328) :
    ∃ d' H', appK e b d (some [x]) (H.new (.row e [x])) = some (d', H') ∧ Grow H' d' e (l ++ [x]) ∧ H'.nx = H.nx + 2 ∧ H'.G = H.G ∧ ∀ j, j < H.nx → NotIt d j → H'.get j = H.get j ∧ NotIt d' j := by
  obtain ⟨d', H', h1, h2, h3, h4, h5⟩ := grow_app (h.new (.row e [x])) (m := [x]) (by simp) (b := b) (by simpa using hb)
  refine ⟨d', H', h1, h2, by rw [h3]; rfl, h4, fun j hj hn => ?_⟩
  obtain ⟨k1, k2⟩ := h5 j (by rw [Heap.new_nx]; omega) hn
  exact ⟨by rw [k1, Heap.new_ne _ _ (by omega)], k2⟩
theorem oK_app {H : Heap} {d : D} {e b : Nat} {l m : List D} {K : D × Heap → Prop} (h : Grow H d e l) (hm : m ≠ []) (hb : (l.length + m.length) * b ≤ 140737488355328)
    (hk : ∀ d' H', Grow H' d' e (l ++ m) → H'.nx = H.nx + 1 → H'.G = H.G → (∀ j, j < H.nx → NotIt d j → H'.get j = H.get j ∧ NotIt d' j) → K (d', H')) : oK (appK e b d (some m) H) K := by
  obtain ⟨d', H', h1, h2, h3, h4, h5⟩ := grow_app h hm hb
  rw [h1]
  exact hk d' H' h2 h3 h4 h5
theorem oK_grow {H : Heap} {d x : D} {e b : Nat} {l : List D} {K : D × Heap → Prop} (h : Grow H d e l) (hb : (l.length + 1) * b ≤ 140737488355328)
    (hk : ∀ d' H', Grow H' d' e (l ++ [x]) → H'.nx = H.nx + 2 → H'.G = H.G → (∀ j, j < H.nx → NotIt d j → H'.get j = H.get j ∧ NotIt d' j) → K (d', H')) : oK (appK e b d (some [x]) (H.new (.row e [x]))) K := by
  obtain ⟨d', H', h1, h2, h3, h4, h5⟩ := grow_one x h hb
  rw [h1]
  exact hk d' H' h2 h3 h4 h5
/-- What is handed back of it. -/
def frD (e : TypeId) (l : List D) : D := if l = [] then .slice 1 0 [] else .slice 0 e l
theorem Grow.fz {P : Program} {H : Heap} {d : D} {e : TypeId} {l l' : List D} {n : Nat} (h : Grow H d e l) (hm : mapO (fz P n H) l = some l') : fz P (n + 1) H d = some (frD e l') := by
  rcases h with ⟨rfl, rfl⟩ | ⟨i, h1, rfl, h3, h0⟩
  · cases hm; rfl
  · rw [Pv.fz]
    simp only [h3]
    rw [if_pos ⟨trivial, by omega⟩, List.drop_zero, List.take_length, hm]
    simp only [frD]
    have hl := mapO_len hm
    by_cases q : l' = []
    · exact absurd (List.eq_nil_of_length_eq_zero (by rw [← hl, q]; rfl)) h0
    · rw [if_neg q, if_neg (fun q2 => q (List.eq_nil_of_length_eq_zero (by omega)))]
/-! A row that is filled from its beginning on. -/
def fill {α : Type} (L : List α) (k : Nat) (z : α) : List α := L.take k ++ List.replicate (L.length - k) z
theorem fill_zero {α : Type} (L : List α) (z : α) : fill L 0 z = List.replicate L.length z := by simp [fill]
theorem fill_all {α : Type} (L : List α) (z : α) : fill L L.length z = L := by simp [fill]
@[simp] theorem fill_len {α : Type} (L : List α) (k : Nat) (z : α) (h : k ≤ L.length) : (fill L k z).length = L.length := by simp [fill]; omega
theorem fill_get {α : Type} (L : List α) (k : Nat) (z : α) (h : k < L.length) : (fill L k z)[k]? = some z := by
  rw [fill, List.getElem?_append_right (by simp; omega)]
  have : k - (L.take k).length = 0 := by simp; omega
  rw [this, List.getElem?_replicate, if_pos (by omega)]
theorem fill_set {α : Type} (L : List α) (k : Nat) (z x : α) (h : L[k]? = some x) : (fill L k z).set k x = fill L (k + 1) z := by
  have hk : k < L.length := (List.getElem?_eq_some_iff.1 h).1
  have h1 : (L.take k).length = k := by simp; omega
  rw [fill, fill, List.set_append_right _ _ (by omega), h1, Nat.sub_self, List.take_add_one, h]
  obtain ⟨m, hm⟩ : ∃ m, L.length - k = m + 1 := ⟨L.length - k - 1, by omega⟩
  rw [hm, show L.length - (k + 1) = m by omega, List.replicate_succ]
  simp
@[simp] theorem setIn_val (v : Value) (d : D) : setIn (.val v) 0 [d] = d := rfl
theorem fz_vals {P : Program} {α : Type} (f : α → Value) (n : Nat) (H : Heap) : ∀ l : List α, mapO (fz P (n + 1) H) (l.map fun x => D.val (f x)) = some (l.map fun x => D.val (f x))
  | [] => rfl
  | a :: l => by rw [List.map_cons, mapO, fz_vals f n H l]; rfl
end Go.Pv
/-! ### Numbers in bytes of seven bits: plain laws -/
namespace Go.Pv
def hiB (n : Nat) : By := if h : n = 0 then [] else hiB (n / 128) ++ [UInt8.ofNat (128 + n % 128)]
def sev (n : Nat) : By := hiB (n / 128) ++ [UInt8.ofNat (n % 128)]
theorem hiB_zero : hiB 0 = [] := by rw [hiB, dif_pos rfl]
theorem hiB_pos (n : Nat) (h : n ≠ 0) : hiB n = hiB (n / 128) ++ [UInt8.ofNat (128 + n % 128)] := by rw [hiB, dif_neg h]
theorem hiB_len (n : Nat) : (hiB n).length ≤ n := by
  induction n using Nat.strongRecOn with
  | _ n ih =>
    by_cases h : n = 0
    · subst h; rw [hiB_zero]; simp
    · rw [hiB_pos n h, List.length_append]
      have := ih (n / 128) (by omega)
      simp; omega
/-- How many bytes there are ahead of the last one. -/
def cnt (n : Nat) : Nat := if h : n < 128 then 0 else cnt (n / 128) + 1
theorem cnt_small (n : Nat) (h : n < 128) : cnt n = 0 := by rw [cnt, dif_pos h]
theorem cnt_big (n : Nat) (h : ¬ n < 128) : cnt n = cnt (n / 128) + 1 := by rw [cnt, dif_neg h]
theorem div_pow_succ (n k : Nat) : n / 128 ^ (k + 1) = n / 128 / 128 ^ k := by rw [Nat.pow_succ, Nat.mul_comm, Nat.div_div_eq_div_mul]
theorem div_pow_succ' (n k : Nat) : n / 128 ^ (k + 1) = n / 128 ^ k / 128 := by rw [Nat.pow_succ, Nat.div_div_eq_div_mul]
theorem cnt_step (n : Nat) : ∀ k, k < cnt n → 128 ≤ n / 128 ^ k := by
  induction n using Nat.strongRecOn with
  | _ n ih =>
    intro k hk
    by_cases h : n < 128
    · rw [cnt_small n h] at hk; omega
    · rw [cnt_big n h] at hk
      cases k with
      | zero => simp; omega
      | succ k => rw [div_pow_succ]; exact ih (n / 128) (by omega) k (by omega)
theorem cnt_last (n : Nat) : n / 128 ^ cnt n < 128 := by
  induction n using Nat.strongRecOn with
  | _ n ih =>
    by_cases h : n < 128
    · rw [cnt_small n h]; simpa using h
    · rw [cnt_big n h, div_pow_succ]; exact ih (n / 128) (by omega)
theorem cnt_le (n : Nat) (h : n < 9223372036854775808) : cnt n ≤ 8 := by
  rcases Nat.lt_or_ge 8 (cnt n) with q | q
  · have := cnt_step n 8 q
    have e : (128 : Nat) ^ 8 = 72057594037927936 := by decide
    rw [e] at this; omega
  · exact q
theorem hi_last (n : Nat) : hiB (n / 128 ^ (cnt n + 1)) = [] := by
  rw [div_pow_succ', Nat.div_eq_of_lt (cnt_last n), hiB_zero]
theorem hi_step (n j : Nat) (h1 : 1 ≤ j) (h : j ≤ cnt n) : hiB (n / 128 ^ j) = hiB (n / 128 ^ (j + 1)) ++ [UInt8.ofNat (128 + n / 128 ^ j % 128)] := by
  have : n / 128 ^ j ≠ 0 := by
    obtain ⟨i, rfl⟩ : ∃ i, j = i + 1 := ⟨j - 1, by omega⟩
    have := cnt_step n i (by omega)
    rw [div_pow_succ']; omega
  rw [hiB_pos _ this, div_pow_succ']
theorem u8_or (z : Nat) : D.val (.int .u8 (IntKind.u8.wrap ((128 % 2 ^ IntKind.u8.bits ||| (IntKind.u8.wrap (z : Int) % 2 ^ IntKind.u8.bits).toNat : Nat) : Int))) = byD (UInt8.ofNat (128 + z % 128)) := by
  rw [byD, show (UInt8.ofNat (128 + z % 128)).toNat = 128 + z % 128 by simp; omega, show (128 % 2 ^ IntKind.u8.bits : Nat) = 128 by decide, show IntKind.u8.bits = 8 by rfl]
  congr 2
  have h1 : (IntKind.u8.wrap (z : Int) % 2 ^ 8).toNat = z % 256 := by simp [IntKind.wrap, IntKind.bits, IntKind.signed]; omega
  rw [h1]
  have h2 : ∀ m : Nat, m < 256 → 128 ||| m = 128 + m % 128 := by decide +kernel
  rw [h2 _ (by omega)]
  simp [IntKind.wrap, IntKind.bits, IntKind.signed]; omega
theorem u8_and (z : Nat) : D.val (.int .u8 (IntKind.u8.wrap (((IntKind.u8.wrap (z : Int) % 2 ^ IntKind.u8.bits).toNat &&& 127 % 2 ^ IntKind.u8.bits : Nat) : Int))) = byD (UInt8.ofNat (z % 128)) := by
  rw [byD, show (UInt8.ofNat (z % 128)).toNat = z % 128 by simp; omega, show (127 % 2 ^ IntKind.u8.bits : Nat) = 127 by decide, show IntKind.u8.bits = 8 by rfl]
  have h1 : (IntKind.u8.wrap (z : Int) % 2 ^ 8).toNat = z % 256 := by simp [IntKind.wrap, IntKind.bits, IntKind.signed]; omega
  rw [h1]
  have h2 : ∀ m : Nat, m < 256 → m &&& 127 = m % 128 := by decide +kernel
  rw [h2 _ (by omega)]
  congr 2
  simp [IntKind.wrap, IntKind.bits, IntKind.signed]; omega
theorem shr7 (n k q : Nat) (h : n / 128 ^ k = q) (hk : k ≤ 9) : (n : Int).fdiv (2 ^ min (7 * (k : Int)).toNat IntKind.i64.bits) = (q : Int) := by
  have e1 : (7 * (k : Int)).toNat = 7 * k := by omega
  have e2 : min (7 * k) IntKind.i64.bits = 7 * k := Nat.min_eq_left (by show 7 * k ≤ 64; omega)
  rw [e1, e2, Int.fdiv_eq_ediv_of_nonneg _ (by exact Int.le_of_lt (Int.pow_pos (by decide)))]
  rw [← h, show (128 : Nat) = 2 ^ 7 by rfl, ← Nat.pow_mul]
  simp
end Go.Pv
/-! ### Parts of a text, as the library finds them -/
namespace Go.Pv
@[simp] theorem nn1 (n : Nat) : (0 ≤ (n : Int) + 1) = True := eq_true (by omega)
@[simp] theorem nlt1 (n : Nat) : ((n : Int) < (n : Int) + 1) = True := eq_true (by omega)
@[simp] theorem nlt0 (n : Nat) : ((n : Int) < 0) = False := eq_false (by omega)
theorem flat_single (l : List D) (h : ∀ d ∈ l, cellsD d = [d]) : flat l = l := by
  induction l with
  | nil => rfl
  | cons a l ih => rw [flat_cons, h a (by simp), ih (fun d hd => h d (by simp [hd]))]; rfl
theorem pure_vals {α : Type} (f : α → Value) (g e : Nat) (L : List α) : Pure (.slice g e (L.map fun x => D.val (f x))) := .slice _ _ _ fun d hd => by
  rw [flat_single _ (fun d hd => by obtain ⟨s, _, rfl⟩ := List.mem_map.1 hd; rfl)] at hd
  obtain ⟨s, _, rfl⟩ := List.mem_map.1 hd
  exact .val _
theorem pure_strs (g e : Nat) (L : List By) : Pure (.slice g e (L.map sD)) := pure_vals (fun s : By => .string ⟨s.toArray⟩) g e L
theorem indexByte_at (c : UInt8) : ∀ (p r : By), c ∉ p → Lib.indexByte (p ++ c :: r) c = (p.length : Int)
  | [], r, _ => by simp [Lib.indexByte]
  | a :: p, r, h => by
    have h1 : (a == c) = false := by
      rw [beq_eq_false_iff_ne]; exact fun e => h (by simp [e])
    have h2 := indexByte_at c p r (fun q => h (by simp [q]))
    have h3 : ((p.length : Int) == -1) = false := by rw [beq_eq_false_iff_ne]; omega
    rw [List.cons_append, Lib.indexByte, h1, h2, h3]
    simp
theorem indexByte_none (c : UInt8) : ∀ (p : By), c ∉ p → Lib.indexByte p c = -1
  | [], _ => rfl
  | a :: p, h => by
    have h1 : (a == c) = false := by
      rw [beq_eq_false_iff_ne]; exact fun e => h (by simp [e])
    have h2 := indexByte_none c p (fun q => h (by simp [q]))
    rw [Lib.indexByte, h1, h2]
    rfl
theorem splitB_len (c : UInt8) : ∀ l : By, (splitB c l).length = l.count c + 1
  | [] => rfl
  | x :: l => by
    have ih := splitB_len c l
    simp only [splitB]
    by_cases h : x = c
    · subst h; simp [ih]
    · rw [if_neg h, List.count_cons_of_ne (fun e => h e)]
      cases hs : splitB c l with
      | nil => exact absurd hs (splitB_ne _ _)
      | cons p ps => rw [hs] at ih; simpa using ih
theorem splitB_two (c : UInt8) : ∀ (l : By) (p q : By) (ps : List By), splitB c l = p :: q :: ps → ∃ r, l = p ++ c :: r ∧ c ∉ p ∧ splitB c r = q :: ps
  | [], p, q, ps, h => by simp [splitB] at h
  | x :: l, p, q, ps, h => by
    simp only [splitB] at h
    by_cases hx : x = c
    · rw [if_pos hx] at h
      simp only [List.cons.injEq] at h
      exact ⟨l, by rw [hx, ← h.1]; rfl, by rw [← h.1]; simp, h.2⟩
    · rw [if_neg hx] at h
      cases hs : splitB c l with
      | nil => exact absurd hs (splitB_ne _ _)
      | cons p2 ps2 =>
        rw [hs] at h
        simp only [List.cons.injEq] at h
        obtain ⟨rfl, rfl⟩ := h
        obtain ⟨r, h1, h2, h3⟩ := splitB_two c l p2 q ps hs
        refine ⟨r, by rw [h1]; rfl, fun hm => ?_, h3⟩
        rcases List.mem_cons.1 hm with e | e
        · exact hx e.symm
        · exact h2 e
theorem splitB_one (c : UInt8) : ∀ (l p : By), splitB c l = [p] → l = p
  | l, p, h => by have := join_split c l; rw [h] at this; exact this.symm
theorem splitB_snoc (c : UInt8) (x : UInt8) : ∀ l : By, splitB c (l ++ [x]) = if x = c then splitB c l ++ [[]] else (splitB c l).dropLast ++ [(splitB c l).getLast (splitB_ne c l) ++ [x]]
  | [] => by by_cases h : x = c <;> simp [splitB, h]
  | a :: l => by
    have ih := splitB_snoc c x l
    by_cases h : x = c
    · rw [if_pos h] at ih ⊢
      by_cases ha : a = c
      · simp [splitB, ha, ih]
      · cases hs : splitB c l with
        | nil => exact absurd hs (splitB_ne _ _)
        | cons p ps => simp [splitB, ha, ih, hs]
    · rw [if_neg h] at ih ⊢
      by_cases ha : a = c
      · have hn := splitB_ne c l
        simp only [List.cons_append, splitB, if_pos ha, ih]
        rw [List.dropLast_cons_of_ne_nil hn, List.getLast_cons hn]; rfl
      · cases hs : splitB c l with
        | nil => exact absurd hs (splitB_ne _ _)
        | cons p ps =>
          simp only [hs] at ih
          cases ps with
          | nil => simp at ih; simp [splitB, ha, ih, hs]
          | cons q ps => simp at ih; simp [splitB, ha, ih, hs]
end Go.Pv
/-! ### Identifiers of objects: plain laws -/
namespace Go.Pv
@[simp] theorem setIn_by (c : UInt8) (d : D) : setIn (byD c) 0 [d] = d := rfl
def natD (n : Nat) : D := .val (.int .i64 (n : Nat))
def okP (p : By) : Bool := (readDigits p).isSome && decide (p.length ≤ 10)
def arcOk (L : List Nat) : Bool := match L with
  | a :: b :: r => decide (r.length ≤ 14) && decide (a ≤ 2) && (decide (2 ≤ a) || decide (b < 40))
  | _ => false
def arcsM (l : By) : Option (List Nat) := if (splitB 46 l).all okP = true then (if arcOk ((splitB 46 l).map digVal) = true then some ((splitB 46 l).map digVal) else none) else none
theorem okP_read {p : By} (h : okP p = true) : readDigits p = some (digVal p) ∧ p.length ≤ 10 ∧ digVal p < 10000000000 := by
  simp only [okP, Bool.and_eq_true, decide_eq_true_eq] at h
  have h1 : readDigits p = some (digVal p) := by
    unfold readDigits at h ⊢
    split
    · rfl
    · rename_i q; rw [if_neg q] at h; cases h.1
  refine ⟨h1, h.2, ?_⟩
  have := readDigits_lt h1
  exact Nat.lt_of_lt_of_le this (Nat.pow_le_pow_right (n := 10) (by decide) h.2)
theorem okP_not {p : By} (h : okP p = false) (h2 : p.length ≤ 10) : readDigits p = none := by
  simp only [okP, Bool.and_eq_false_iff, decide_eq_false_iff_not] at h
  rcases h with h | h
  · cases hr : readDigits p with
    | none => rfl
    | some n => rw [hr] at h; cases h
  · exact absurd h2 h
theorem sev_len (n : Nat) (h : n < 9223372036854775808) : (sev n).length ≤ 9 := by
  have key : ∀ m, (hiB (m / 128)).length = cnt m := by
    intro m
    induction m using Nat.strongRecOn with
    | _ m ih =>
      by_cases q : m < 128
      · rw [cnt_small m q, Nat.div_eq_of_lt q, hiB_zero]; rfl
      · rw [cnt_big m q, hiB_pos _ (by omega), List.length_append, ih (m / 128) (by omega)]; rfl
  have := cnt_le n h
  rw [sev, List.length_append, key n]
  simp; omega
theorem sev_ne (n : Nat) : sev n ≠ [] := by simp [sev]
/-- The bytes of an identifier's numbers. -/
def enc : List Nat → By
  | a :: b :: r => sev (a * 40 + b) ++ r.flatMap sev
  | _ => []
def putM (l : By) : Option By := (arcsM l).map enc
/-! Two ends of a row changed for each other. -/
def swapped {α : Type} (B : List α) (z : α) (j : Nat) : List α := (List.range B.length).map fun p => if p < j ∨ B.length ≤ p + j then B.getD (B.length - 1 - p) z else B.getD p z
theorem swapped_len {α : Type} (B : List α) (z : α) (j : Nat) : (swapped B z j).length = B.length := by simp [swapped]
theorem swapped_get {α : Type} (B : List α) (z : α) (j p : Nat) (h : p < B.length) : (swapped B z j)[p]? = some (if p < j ∨ B.length ≤ p + j then B.getD (B.length - 1 - p) z else B.getD p z) := by
  simp [swapped, h]
theorem swapped_zero {α : Type} (B : List α) (z : α) : swapped B z 0 = B := by
  apply List.ext_getElem?
  intro p
  by_cases h : p < B.length
  · rw [swapped_get B z 0 p h, if_neg (by omega), List.getD, List.getElem?_eq_getElem h]; rfl
  · rw [List.getElem?_eq_none (by rw [swapped_len]; omega), List.getElem?_eq_none (by omega)]
theorem swapped_all {α : Type} (B : List α) (z : α) (j : Nat) (h : B.length ≤ 2 * j + 1) : swapped B z j = B.reverse := by
  apply List.ext_getElem?
  intro p
  by_cases hp : p < B.length
  · rw [swapped_get B z j p hp, List.getElem?_reverse hp]
    split
    · rw [List.getD, List.getElem?_eq_getElem (by omega)]; rfl
    · rename_i q
      have : B.length - 1 - p = p := by omega
      rw [this, List.getD, List.getElem?_eq_getElem hp]; rfl
  · rw [List.getElem?_eq_none (by rw [swapped_len]; omega), List.getElem?_eq_none (by simp; omega)]
theorem swapped_step {α : Type} (B : List α) (z : α) (j : Nat) (h : 2 * j + 1 < B.length) : ((swapped B z j).set j (B.getD (B.length - 1 - j) z)).set (B.length - 1 - j) (B.getD j z) = swapped B z (j + 1) := by
  apply List.ext_getElem?
  intro p
  by_cases hp : p < B.length
  · rw [swapped_get B z (j + 1) p hp, List.getElem?_set, List.getElem?_set]
    simp only [List.length_set, swapped_len]
    by_cases h1 : B.length - 1 - j = p
    · rw [if_pos h1, if_pos (by omega), if_pos (by omega)]
      congr 2; omega
    · rw [if_neg h1]
      by_cases h2 : j = p
      · rw [if_pos h2, if_pos (by omega), if_pos (by omega)]
        congr 2; omega
      · rw [if_neg h2, swapped_get B z j p hp]
        by_cases h3 : p < j ∨ B.length ≤ p + j
        · rw [if_pos h3, if_pos (by omega)]
        · rw [if_neg h3, if_neg (by omega)]
  · rw [List.getElem?_eq_none (by simp [swapped_len]; omega), List.getElem?_eq_none (by rw [swapped_len]; omega)]
theorem swapped_lo {α : Type} (B : List α) (z : α) (j : Nat) (h : 2 * j + 1 < B.length) : (swapped B z j)[j]? = some (B.getD j z) := by
  rw [swapped_get B z j j (by omega), if_neg (by omega)]
theorem swapped_hi {α : Type} (B : List α) (z : α) (j : Nat) (h : 2 * j + 1 < B.length) : (swapped B z j)[B.length - 1 - j]? = some (B.getD (B.length - 1 - j) z) := by
  rw [swapped_get B z j _ (by omega), if_neg (by omega)]
/-- The digits of a number, the last one first. -/
def lows (n : Nat) : Nat → By
  | 0 => []
  | k + 1 => lows n k ++ [UInt8.ofNat (48 + n / 10 ^ k % 10)]
theorem div_ten_succ (n k : Nat) : n / 10 ^ (k + 1) = n / 10 ^ k / 10 := by rw [Nat.pow_succ, Nat.div_div_eq_div_mul]
theorem lows_len (n k : Nat) : (lows n k).length = k := by induction k with
  | zero => rfl
  | succ k ih => rw [lows, List.length_append, ih]; rfl
theorem digits_lows (n : Nat) : ∀ k, (∀ j, j < k → 10 ≤ n / 10 ^ j) → digits n = digits (n / 10 ^ k) ++ (lows n k).reverse
  | 0, _ => by simp [lows]
  | k + 1, h => by
    rw [digits_lows n k (fun j hj => h j (by omega)), digits_ge _ (by have := h k (by omega); omega), div_ten_succ, lows, List.reverse_append]
    simp
/-- How many digits a number has ahead of its first one. -/
def dl (n : Nat) : Nat := if h : n < 10 then 0 else dl (n / 10) + 1
theorem dl_small (n : Nat) (h : n < 10) : dl n = 0 := by rw [dl, dif_pos h]
theorem dl_big (n : Nat) (h : ¬ n < 10) : dl n = dl (n / 10) + 1 := by rw [dl, dif_neg h]
theorem div_ten_first (n k : Nat) : n / 10 ^ (k + 1) = n / 10 / 10 ^ k := by rw [Nat.pow_succ, Nat.mul_comm, Nat.div_div_eq_div_mul]
theorem dl_step (n : Nat) : ∀ k, k < dl n → 10 ≤ n / 10 ^ k := by
  induction n using Nat.strongRecOn with
  | _ n ih =>
    intro k hk
    by_cases h : n < 10
    · rw [dl_small n h] at hk; omega
    · rw [dl_big n h] at hk
      cases k with
      | zero => simp; omega
      | succ k => rw [div_ten_first]; exact ih (n / 10) (by omega) k (by omega)
theorem dl_last (n : Nat) : n / 10 ^ dl n < 10 := by
  induction n using Nat.strongRecOn with
  | _ n ih =>
    by_cases h : n < 10
    · rw [dl_small n h]; simpa using h
    · rw [dl_big n h, div_ten_first]; exact ih (n / 10) (by omega)
theorem dl_le (n : Nat) (h : n < 9223372036854775808) : dl n ≤ 18 := by
  rcases Nat.lt_or_ge 18 (dl n) with q | q
  · have := dl_step n 18 q
    have e : (10 : Nat) ^ 18 = 1000000000000000000 := by decide
    rw [e] at this; omega
  · exact q
theorem digits_rev (n : Nat) : digits n = (lows n (dl n + 1)).reverse := by
  rw [digits_lows n (dl n) (dl_step n), lows, List.reverse_append, digits_lt _ (dl_last n), Nat.mod_eq_of_lt (dl_last n)]
  rfl
end Go.Pv
namespace Go.Pv
theorem Grow.keep {H H' : Heap} {d : D} {e : TypeId} {l : List D} (h : Grow H d e l) (hn : H.nx ≤ H'.nx) (hf : ∀ j, j < H.nx → H'.get j = H.get j) : Grow H' d e l := by
  rcases h with h | ⟨i, h1, h2, h3, h4⟩
  · exact .inl h
  · exact .inr ⟨i, by omega, h2, by rw [hf i h1]; exact h3, h4⟩
theorem Grow.row {H : Heap} {d : D} {e : TypeId} {l : List D} (h : Grow H d e l) (hl : l ≠ []) : ∃ i, i < H.nx ∧ d = .row i e 0 l.length ∧ H.get i = some (.row e l) := by
  rcases h with ⟨h, _⟩ | ⟨i, h1, h2, h3, h4⟩
  · exact absurd h hl
  · exact ⟨i, h1, h2, h3⟩
theorem Grow.one {H : Heap} {e : TypeId} (x : D) : Grow (H.new (.row e [x])) (.row H.nx e 0 1) e [x] := .inr ⟨H.nx, by simp, rfl, by simp, by simp⟩
theorem Grow.of {H : Heap} {i : Nat} {e : TypeId} {l : List D} (h1 : i < H.nx) (h2 : H.get i = some (.row e l)) (h3 : l ≠ []) : Grow H (.row i e 0 l.length) e l := .inr ⟨i, h1, rfl, h2, h3⟩
theorem cnt_pos (n k : Nat) (h : k < cnt n) : 0 < n / 128 ^ (k + 1) := by
  have := cnt_step n k h
  rw [div_pow_succ']
  exact Nat.div_pos this (by decide)
theorem cnt_zero (n : Nat) : n / 128 ^ (cnt n + 1) = 0 := by
  rw [div_pow_succ']; exact Nat.div_eq_of_lt (cnt_last n)
theorem u8_lo (z : Nat) : D.val (.int .u8 (IntKind.u8.wrap ((z % 128 : Nat) : Int))) = byD (UInt8.ofNat (z % 128)) := by
  rw [byD, show (UInt8.ofNat (z % 128)).toNat = z % 128 by simp; omega, wrapB _ (by omega) (by omega)]
theorem u8_hi (z : Nat) : D.val (.int .u8 (IntKind.u8.wrap (IntKind.i64.wrap (((z % 128 : Nat) : Int) + 128)))) = byD (UInt8.ofNat (128 + z % 128)) := by
  rw [byD, show (UInt8.ofNat (128 + z % 128)).toNat = 128 + z % 128 by simp; omega, wrapI _ (by omega) (by omega), wrapB _ (by omega) (by omega)]
  congr 2; omega
end Go.Pv
/-! ### The identifier that bytes tell: plain laws -/
namespace Go.Pv
theorem join_joinB (c : UInt8) : ∀ ps : List By, Lib.join ps [c] = joinB c ps
  | [] => rfl
  | [p] => by rw [Lib.join_one]; rfl
  | p :: q :: ps => by
    rw [joinB_cons _ _ _ (by simp), ← join_joinB c (q :: ps), Lib.join_cons, Lib.join_cons, Lib.joinTail]
    simp [Lib.joinTail]
def textM (A : List Nat) : By := joinB 46 (A.map digits)
/-- One byte more: the numbers that are told, and what is told of the next one. -/
def rdNext (A : List Nat) (n : Nat) : List Nat := if A = [] then [min (n / 40) 2, n - min (n / 40) 2 * 40] else A ++ [n]
def rdStep (A : List Nat) (n : Nat) (c : UInt8) : Option (List Nat × Nat) :=
  if 10000000079 < n * 128 + c.toNat % 128 ∨ 16 < A.length then none else if c.toNat < 128 then some (rdNext A (n * 128 + c.toNat % 128), 0) else some (A, n * 128 + c.toNat % 128)
def rdLoop : List Nat → Nat → By → Option (List Nat × Nat)
  | A, n, [] => some (A, n)
  | A, n, c :: bs => match rdStep A n c with
    | some (A', n') => rdLoop A' n' bs
    | none => none
theorem rdLoop_app : ∀ (x y : By) (A : List Nat) (n : Nat), rdLoop A n (x ++ y) = match rdLoop A n x with
    | some (A', n') => rdLoop A' n' y
    | none => none
  | [], y, A, n => rfl
  | c :: x, y, A, n => by
    simp only [List.cons_append, rdLoop]
    cases rdStep A n c with
    | none => rfl
    | some q => exact rdLoop_app x y q.1 q.2
theorem rd_hi (A : List Nat) (hA : A.length ≤ 16) : ∀ q, q ≤ 10000000079 → rdLoop A 0 (hiB q) = some (A, q) := by
  intro q
  induction q using Nat.strongRecOn with
  | _ q ih =>
    intro hq
    by_cases h : q = 0
    · subst h; rw [hiB_zero]; rfl
    · rw [hiB_pos q h, rdLoop_app, ih (q / 128) (by omega) (by omega)]
      have h1 : (UInt8.ofNat (128 + q % 128)).toNat = 128 + q % 128 := by simp [UInt8.toNat_ofNat]; omega
      simp only [rdLoop, rdStep, h1]
      rw [if_neg (by omega), if_neg (by omega), show q / 128 * 128 + (128 + q % 128) % 128 = q by omega]
theorem rd_sev (A : List Nat) (hA : A.length ≤ 16) (n : Nat) (hn : n ≤ 10000000079) : rdLoop A 0 (sev n) = some (rdNext A n, 0) := by
  rw [sev, rdLoop_app, rd_hi A hA (n / 128) (by omega)]
  have h1 : (UInt8.ofNat (n % 128)).toNat = n % 128 := by simp [UInt8.toNat_ofNat]; omega
  simp only [rdLoop, rdStep, h1]
  rw [if_neg (by omega), if_pos (by omega), show n / 128 * 128 + n % 128 % 128 = n by omega]
theorem rd_more : ∀ (r A : List Nat), A ≠ [] → A.length + r.length ≤ 17 → (∀ n ∈ r, n ≤ 10000000079) → rdLoop A 0 (r.flatMap sev) = some (A ++ r, 0)
  | [], A, _, _, _ => by simp [rdLoop]
  | n :: r, A, h0, h1, h2 => by
    simp only [List.length_cons] at h1
    rw [List.flatMap_cons, rdLoop_app, rd_sev A (by omega) n (h2 n (by simp))]
    simp only [rdNext, if_neg h0]
    rw [rd_more r (A ++ [n]) (by simp) (by simp; omega) (fun m hm => h2 m (by simp [hm]))]
    simp
theorem arcs_valid {l : By} {L : List Nat} (h : arcsM l = some L) : ∃ a b r, L = a :: b :: r ∧ r.length ≤ 14 ∧ a ≤ 2 ∧ (a < 2 → b < 40) ∧ b < 10000000000 ∧ (∀ n ∈ r, n < 10000000000) ∧ textM L = l := by
  unfold arcsM at h
  split at h
  · rename_i hall
    split at h
    · rename_i hok
      cases h
      have hlt : ∀ n ∈ (splitB 46 l).map digVal, n < 10000000000 := fun n hn => by
        obtain ⟨p, hp, rfl⟩ := List.mem_map.1 hn
        exact (okP_read (List.all_eq_true.1 hall p hp)).2.2
      have ht : textM ((splitB 46 l).map digVal) = l := by
        have e : List.map (digits ∘ digVal) (splitB 46 l) = splitB 46 l := (List.map_congr_left (g := id) (fun p hp => digits_read (okP_read (List.all_eq_true.1 hall p hp)).1)).trans (List.map_id _)
        rw [textM, List.map_map, e, join_split]
      unfold arcOk at hok
      split at hok
      · rename_i a b r e
        rw [e] at hlt ht ⊢
        simp only [Bool.and_eq_true, Bool.or_eq_true, decide_eq_true_eq] at hok
        exact ⟨a, b, r, rfl, hok.1.1, hok.1.2, fun q => by omega, hlt b (by simp), fun n hn => hlt n (by simp [hn]), ht⟩
      · cases hok
    · cases h
  · cases h
theorem rd_enc {l : By} {L : List Nat} (h : arcsM l = some L) : rdLoop [] 0 (enc L) = some (L, 0) := by
  obtain ⟨a, b, r, rfl, h1, h2, h3, h4, h5, _⟩ := arcs_valid h
  have hm : min ((a * 40 + b) / 40) 2 = a := by omega
  rw [enc, rdLoop_app, rd_sev [] (by simp) _ (by omega), rdNext, if_pos rfl, hm, show a * 40 + b - a * 40 = b by omega]
  simp only
  rw [rd_more r [a, b] (by simp) (by simp; omega) (fun n hn => by have := h5 n hn; omega)]
  rfl
def readM (bs : By) : Option By := match rdLoop [] 0 bs with
  | some (A, _) => if putM (textM A) = some bs then some (textM A) else none
  | none => none
theorem readM_iff (bs s : By) : readM bs = some s ↔ putM s = some bs := by
  constructor
  · intro h
    unfold readM at h
    split at h
    · split at h
      · cases h; assumption
      · cases h
    · cases h
  · intro h
    unfold putM at h
    obtain ⟨L, hL, rfl⟩ := Option.map_eq_some_iff.1 h
    obtain ⟨_, _, _, _, _, _, _, _, _, ht⟩ := arcs_valid hL
    unfold readM
    rw [rd_enc hL]
    simp only [ht]
    rw [if_pos (by rw [putM, hL]; rfl)]
/-! The document's own road. -/
def rrStep (s : By) (n : Nat) (c : UInt8) : By × Nat :=
  if c.toNat < 128 then (if s = [] then digits (min ((n * 128 + c.toNat % 128) / 40) 2) ++ 46 :: digits (n * 128 + c.toNat % 128 - min ((n * 128 + c.toNat % 128) / 40) 2 * 40) else s ++ 46 :: digits (n * 128 + c.toNat % 128), 0) else (s, n * 128 + c.toNat % 128)
def rrLoop : By → Nat → By → Option By
  | s, _, [] => some s
  | s, n, c :: bs => if 200 ≤ s.length then some s else if 100000000000 < n then none else rrLoop (rrStep s n c).1 (rrStep s n c).2 bs
def rreadM (bs : By) : Option By := match rrLoop [] 0 bs with
  | some s => if putM s = some bs then some s else none
  | none => none
theorem joinB_snoc (c : UInt8) : ∀ (ps : List By) (p : By), ps ≠ [] → joinB c (ps ++ [p]) = joinB c ps ++ c :: p
  | [], p, h => absurd rfl h
  | [q], p, _ => rfl
  | q :: q2 :: ps, p, _ => by
    have ih := joinB_snoc c (q2 :: ps) p (by simp)
    show joinB c (q :: (q2 :: ps ++ [p])) = _
    rw [joinB_cons c q _ (by simp), ih, joinB_cons c q (q2 :: ps) (by simp)]; simp
theorem text_next (A : List Nat) (n : Nat) : textM (rdNext A n) = if A = [] then digits (min (n / 40) 2) ++ 46 :: digits (n - min (n / 40) 2 * 40) else textM A ++ 46 :: digits n := by
  unfold rdNext
  split
  · rfl
  · rename_i h
    rw [textM, List.map_append, List.map_singleton, joinB_snoc _ _ _ (by simpa using h)]; rfl
theorem text_nil (A : List Nat) : textM A = [] ↔ A = [] := by
  cases A with
  | nil => simp [textM, joinB]
  | cons a A =>
    simp only [reduceCtorEq, iff_false]
    intro h
    rw [textM, List.map_cons] at h
    cases A with
    | nil => exact digits_ne a h
    | cons b A => rw [List.map_cons, joinB_cons _ _ _ (by simp)] at h; simp at h
theorem text_len (A : List Nat) (h : ∀ n ∈ A, n < 100000000000) : (textM A).length ≤ A.length * 12 := by
  have key : ∀ ps : List By, (∀ p ∈ ps, p.length ≤ 11) → (joinB 46 ps).length ≤ ps.length * 12 := by
    intro ps
    induction ps with
    | nil => intro _; simp [joinB]
    | cons p ps ih =>
      intro hp
      cases ps with
      | nil => have := hp p (by simp); simp [joinB]; omega
      | cons q ps =>
        have h1 := hp p (by simp)
        have h2 := ih (fun x hx => hp x (by simp [hx]))
        rw [joinB_cons _ _ _ (by simp), List.length_append, List.length_cons]
        simp only [List.length_cons] at *; omega
  have := key (A.map digits) (fun p hp => by
    obtain ⟨n, hn, rfl⟩ := List.mem_map.1 hp
    exact digits_len 10 n (h n hn))
  rwa [List.length_map] at this
/-- Where the program's road comes through with few numbers, the document's does so. -/
theorem rr_follow : ∀ (bs : By) (A : List Nat) (n : Nat) (A' : List Nat) (n' : Nat), rdLoop A n bs = some (A', n') → A'.length ≤ 16 → n ≤ 10000000079 → (∀ m ∈ A, m < 100000000000) → rrLoop (textM A) n bs = some (textM A')
  | [], A, n, A', n', h, _, _, _ => by simp only [rdLoop, Option.some.injEq, Prod.mk.injEq] at h; rw [rrLoop, h.1]
  | c :: bs, A, n, A', n', h, hl, hn, hA => by
    have hlt := c.toNat_lt
    simp only [rdLoop] at h
    have hmono : ∀ (bs : By) (A : List Nat) (n : Nat) (A' : List Nat) (n' : Nat), rdLoop A n bs = some (A', n') → A.length ≤ A'.length := by
      intro bs
      induction bs with
      | nil => intro A n A' n' h; simp only [rdLoop, Option.some.injEq, Prod.mk.injEq] at h; rw [h.1]; exact Nat.le_refl _
      | cons c bs ih =>
        intro A n A' n' h
        simp only [rdLoop, rdStep] at h
        split at h
        · rename_i q A2 n2 e
          have h3 := ih A2 n2 A' n' h
          split at e
          · cases e
          · split at e
            · cases e
              have : A.length ≤ (rdNext A (n * 128 + c.toNat % 128)).length := by
                unfold rdNext; split
                · rename_i q; subst q; simp
                · simp
              omega
            · cases e; exact h3
        · cases h
    have hAl : A.length ≤ 16 := by
      have := hmono (c :: bs) A n A' n' (by simpa only [rdLoop] using h)
      omega
    have hsl := text_len A hA
    cases e : rdStep A n c with
    | none => rw [e] at h; cases h
    | some q =>
      rw [e] at h
      simp only at h
      unfold rdStep at e
      split at e
      · cases e
      · rename_i hq
        have hbig : ¬ 100000000000 < n := by omega
        rw [rrLoop, if_neg (by omega), if_neg hbig, rrStep]
        split at e
        · rename_i hc
          cases e
          rw [if_pos hc]
          have hn2 : ∀ m ∈ rdNext A (n * 128 + c.toNat % 128), m < 100000000000 := by
            intro m hm
            unfold rdNext at hm
            split at hm
            · simp only [List.mem_cons, List.mem_nil_iff, or_false] at hm
              rcases hm with rfl | rfl <;> omega
            · rcases List.mem_append.1 hm with hm | hm
              · exact hA m hm
              · simp only [List.mem_cons, List.mem_nil_iff, or_false] at hm; omega
          have := rr_follow bs _ _ A' n' h hl (by omega) hn2
          rw [text_next] at this
          by_cases hA0 : A = []
          · simp only [hA0, if_true] at this ⊢
            simpa [textM, joinB] using this
          · have : ¬ textM A = [] := fun q => hA0 ((text_nil A).1 q)
            simp_all
        · rename_i hc
          cases e
          rw [if_neg hc]
          exact rr_follow bs A _ A' n' h hl (by omega) hA
theorem rreadM_eq (bs : By) : rreadM bs = readM bs := by
  have h1 : ∀ s, rreadM bs = some s → putM s = some bs := by
    intro s h
    unfold rreadM at h
    split at h
    · split at h
      · cases h; assumption
      · cases h
    · cases h
  have h2 : ∀ s, putM s = some bs → rreadM bs = some s := by
    intro s h
    have h' := h
    unfold putM at h
    obtain ⟨L, hL, rfl⟩ := Option.map_eq_some_iff.1 h
    obtain ⟨a, b, r, hLe, hr, _, _, _, _, ht⟩ := arcs_valid hL
    have := rr_follow (enc L) [] 0 L 0 (rd_enc hL) (by rw [hLe]; simp; omega) (by omega) (by simp)
    rw [ht] at this
    have t0 : textM [] = [] := rfl
    rw [t0] at this
    unfold rreadM
    rw [this]
    simp only
    rw [if_pos h']
  cases hr : rreadM bs with
  | some s => exact ((readM_iff bs s).2 (h1 s hr)).symm
  | none =>
    cases hm : readM bs with
    | none => rfl
    | some s => have := h2 s ((readM_iff bs s).1 hm); rw [hr] at this; cases this
end Go.Pv
namespace Go.Pv
open Go.Lib
/-! ### Sorted lists, each element once -/
abbrev Bs := List UInt8
def Lt (a b : Bs) : Prop := a ≤ b ∧ a ≠ b
theorem mem_compactUpTo (d : Array Bs) (x : Bs) : ∀ m, x ∈ compactUpTo d m ↔ ∃ j, j < m ∧ d[j]! = x
  | 0 => by simp [compactUpTo]
  | m + 1 => by
    rw [compactUpTo_succ, List.mem_append, mem_compactUpTo d x m]
    constructor
    · rintro (⟨j, h1, h2⟩ | h)
      · exact ⟨j, by omega, h2⟩
      · split at h
        · exact ⟨m, by omega, by simp only [List.mem_singleton] at h; exact h.symm⟩
        · cases h
    · rintro ⟨j, h1, h2⟩
      by_cases hj : j < m
      · exact .inl ⟨j, hj, h2⟩
      · obtain rfl : j = m := by omega
        by_cases hk : keeps d j = true
        · right; rw [if_pos hk]; simp [h2]
        · left
          have : ¬ (j = 0 ∨ d[j]! ≠ d[j - 1]!) := by simpa [keeps] using hk
          have h3 : j ≠ 0 := fun q => this (.inl q)
          have h4 : d[j]! = d[j - 1]! := Decidable.byContradiction fun q => this (.inr q)
          exact ⟨j - 1, by omega, by rw [← h4]; exact h2⟩
theorem mem_compact (l : List Bs) (x : Bs) : x ∈ compact l ↔ x ∈ l := by
  rw [compact, mem_compactUpTo, List.mem_iff_getElem]
  constructor
  · rintro ⟨j, h1, h2⟩
    refine ⟨j, h1, ?_⟩
    have : l.toArray[j]! = l[j] := by simp [h1]
    rw [← this, h2]
  · rintro ⟨j, h1, h2⟩
    refine ⟨j, h1, ?_⟩
    have : l.toArray[j]! = l[j] := by simp [h1]
    rw [this, h2]
theorem compactUpTo_pw (d : Array Bs) (hs : ∀ i j, i < j → j < d.size → d[i]! ≤ d[j]!) : ∀ m, m ≤ d.size → (compactUpTo d m).Pairwise Lt
  | 0, _ => by simp [compactUpTo]
  | m + 1, hm => by
    rw [compactUpTo_succ]
    by_cases hk : keeps d m = true
    · rw [if_pos hk, List.pairwise_append]
      refine ⟨compactUpTo_pw d hs m (by omega), by simp, fun a ha b hb => ?_⟩
      simp only [List.mem_singleton] at hb
      subst hb
      obtain ⟨j, h1, rfl⟩ := (mem_compactUpTo d a m).1 ha
      refine ⟨hs j m h1 (by omega), fun q => ?_⟩
      have hk' : m = 0 ∨ d[m]! ≠ d[m - 1]! := by simpa [keeps] using hk
      rcases hk' with h | h
      · omega
      · apply h
        by_cases e : j = m - 1
        · rw [← e, q]
        · have h3 := hs j (m - 1) (by omega) (by omega)
          have h4 := hs (m - 1) m (by omega) (by omega)
          rw [q] at h3
          exact List.le_antisymm h3 h4
    · rw [if_neg hk, List.append_nil]
      exact compactUpTo_pw d hs m (by omega)
def sortB' (l : List Bs) : List Bs := l.mergeSort fun x y => decide (x ≤ y)
theorem compact_sort_pw (l : List Bs) : (compact (sortB' l)).Pairwise Lt := by
  have hp : (sortB' l).Pairwise fun a b => decide (a ≤ b) = true := List.pairwise_mergeSort
    (fun a b c h k => by simp only [decide_eq_true_eq] at *; exact List.le_trans h k)
    (fun a b => by simp only [Bool.or_eq_true, decide_eq_true_eq]; exact List.le_total a b) l
  refine compactUpTo_pw _ (fun i j hij hj => ?_) _ (by simp)
  have hj' : j < (sortB' l).length := by simpa using hj
  have h1 : (sortB' l).toArray[i]! = (sortB' l)[i] := by simp [show i < (sortB' l).length by omega]
  have h2 : (sortB' l).toArray[j]! = (sortB' l)[j] := by simp [hj']
  rw [h1, h2]
  have := List.pairwise_iff_getElem.1 hp i j (by omega) hj' hij
  simpa using this
theorem ext_of_pw : ∀ {l l' : List Bs}, l.Pairwise Lt → l'.Pairwise Lt → (∀ x, x ∈ l ↔ x ∈ l') → l = l'
  | [], [], _, _, _ => rfl
  | [], b :: t', _, _, hm => absurd ((hm b).2 (by simp)) (by simp)
  | a :: t, [], _, _, hm => absurd ((hm a).1 (by simp)) (by simp)
  | a :: t, b :: t', h, h', hm => by
    rw [List.pairwise_cons] at h h'
    have hab : a = b := by
      have h1 := (hm a).1 (by simp)
      have h2 := (hm b).2 (by simp)
      rcases List.mem_cons.1 h1 with e | e1
      · exact e
      · rcases List.mem_cons.1 h2 with e | e2
        · exact e.symm
        · exact List.le_antisymm (h.1 b e2).1 (h'.1 a e1).1
    subst hab
    rw [ext_of_pw h.2 h'.2 fun x => ?_]
    constructor
    · intro hx
      rcases List.mem_cons.1 ((hm x).1 (by simp [hx])) with e | e
      · subst e; exact absurd rfl (h.1 x hx).2
      · exact e
    · intro hx
      rcases List.mem_cons.1 ((hm x).2 (by simp [hx])) with e | e
      · subst e; exact absurd rfl (h'.1 x hx).2
      · exact e
theorem cs_mem (l : List Bs) (x : Bs) : x ∈ compact (sortB' l) ↔ x ∈ l := by rw [mem_compact, sortB', List.mem_mergeSort]
theorem cs_ext {l l' : List Bs} (h : ∀ x, x ∈ l ↔ x ∈ l') : compact (sortB' l) = compact (sortB' l') :=
  ext_of_pw (compact_sort_pw l) (compact_sort_pw l') fun x => by rw [cs_mem, cs_mem]; exact h x
end Go.Pv
/-! ### Descriptions: plain laws -/
namespace Go.Pv
/-- Each thing once, where it came first. -/
def nub (l : List By) : List By := l.foldl (fun acc x => if x ∈ acc then acc else acc ++ [x]) []
theorem nub_snoc (l : List By) (x : By) : nub (l ++ [x]) = if x ∈ nub l then nub l else nub l ++ [x] := by unfold nub; rw [List.foldl_append]; rfl
theorem nub_mem (l : List By) : ∀ x, x ∈ nub l ↔ x ∈ l := by
  induction l using snocRec with
  | nil => simp [nub]
  | append_singleton l a ih =>
    intro x
    rw [nub_snoc]
    split
    · rename_i h
      rw [ih x, List.mem_append]
      constructor
      · exact .inl
      · rintro (h1 | h1)
        · exact h1
        · rw [List.mem_singleton] at h1; subst h1; exact (ih x).1 h
    · rw [List.mem_append, List.mem_append, ih x]
theorem nub_len (l : List By) : (nub l).length ≤ l.length := by
  induction l using snocRec with
  | nil => simp [nub]
  | append_singleton l a ih => rw [nub_snoc]; split <;> simp <;> omega
theorem nub_nodup (l : List By) : (nub l).Nodup := by
  induction l using snocRec with
  | nil => simp [nub]
  | append_singleton l a ih =>
    rw [nub_snoc]
    split
    · exact ih
    · rename_i h
      rw [List.nodup_append]
      exact ⟨ih, by simp, fun x hx y hy => by rw [List.mem_singleton] at hy; subst hy; exact fun e => h (e ▸ hx)⟩
theorem nub_take (l : List By) (k : Nat) (x : By) (h : l[k]? = some x) : nub (l.take (k + 1)) = if x ∈ nub (l.take k) then nub (l.take k) else nub (l.take k) ++ [x] := by
  rw [List.take_add_one, h]; exact nub_snoc _ _
theorem nub_nil (l : List By) : nub l = [] ↔ l = [] := by
  constructor
  · intro h
    cases l with
    | nil => rfl
    | cons a l => have := (nub_mem (a :: l) a).2 (by simp); rw [h] at this; cases this
  · rintro rfl; rfl
/-- Something put into a row in order, once. -/
def ins (x : By) : List By → List By
  | [] => [x]
  | y :: ys => if y < x then y :: ins x ys else if y = x then y :: ys else x :: y :: ys
/-- How many come ahead of something. -/
def posOf (x : By) : List By → Nat
  | [] => 0
  | y :: ys => if y < x then posOf x ys + 1 else 0
theorem posOf_le (x : By) : ∀ l, posOf x l ≤ l.length
  | [] => Nat.le_refl _
  | y :: ys => by rw [posOf]; split; exact Nat.succ_le_succ (posOf_le x ys); exact Nat.zero_le _
theorem posOf_lt (x : By) : ∀ (l : List By) (k : Nat) (y : By), k < posOf x l → l[k]? = some y → y < x
  | [], k, y, h, _ => by simp [posOf] at h
  | z :: ys, k, y, h, hy => by
    rw [posOf] at h
    split at h
    · cases k with
      | zero => simp at hy; subst hy; assumption
      | succ k => exact posOf_lt x ys k y (by omega) (by simpa using hy)
    · omega
theorem posOf_at (x : By) : ∀ (l : List By) (y : By), l[posOf x l]? = some y → ¬ y < x
  | [], y, hy => by simp [posOf] at hy
  | z :: ys, y, hy => by
    rw [posOf] at hy
    split at hy
    · exact posOf_at x ys y (by simpa using hy)
    · simp at hy; subst hy; assumption
theorem ins_eq (x : By) : ∀ l : List By, ins x l = if l[posOf x l]? = some x then l else l.take (posOf x l) ++ x :: l.drop (posOf x l)
  | [] => by simp [ins, posOf]
  | y :: ys => by
    rw [ins, posOf]
    by_cases h : y < x
    · rw [if_pos h, if_pos h, ins_eq x ys]
      simp only [List.getElem?_cons_succ, List.take_succ_cons, List.drop_succ_cons, List.cons_append]
      split <;> rfl
    · rw [if_neg h, if_neg h]
      by_cases e : y = x
      · subst e; simp
      · simp [e]
theorem ins_mem (x : By) : ∀ (l : List By) (z : By), z ∈ ins x l ↔ z = x ∨ z ∈ l
  | [], z => by simp [ins]
  | y :: ys, z => by
    rw [ins]
    split
    · rw [List.mem_cons, ins_mem x ys z, List.mem_cons]
      constructor
      · rintro (h | h | h)
        · exact .inr (.inl h)
        · exact .inl h
        · exact .inr (.inr h)
      · rintro (h | h | h)
        · exact .inr (.inl h)
        · exact .inl h
        · exact .inr (.inr h)
    · split
      · rename_i e; subst e; simp
      · simp
theorem ins_pw (x : By) : ∀ l : List By, l.Pairwise Lt → (ins x l).Pairwise Lt
  | [], _ => by simp [ins]
  | y :: ys, h => by
    rw [List.pairwise_cons] at h
    rw [ins]
    split
    · rename_i hlt
      rw [List.pairwise_cons]
      refine ⟨fun z hz => ?_, ins_pw x ys h.2⟩
      rcases (ins_mem x ys z).1 hz with rfl | hz
      · exact ⟨List.le_of_lt hlt, fun e => by subst e; exact List.lt_irrefl _ hlt⟩
      · exact h.1 z hz
    · rename_i hnlt
      split
      · rw [List.pairwise_cons]; exact h
      · rename_i hne
        have hxy : Lt x y := ⟨List.not_lt.1 hnlt, fun e => hne e.symm⟩
        rw [List.pairwise_cons, List.pairwise_cons]
        refine ⟨fun z hz => ?_, h⟩
        rcases List.mem_cons.1 hz with rfl | hz
        · exact hxy
        · have := h.1 z hz
          exact ⟨List.le_trans hxy.1 this.1, fun e => by subst e; exact hxy.2 (List.le_antisymm hxy.1 this.1)⟩
def sortU (l : List By) : List By := l.foldl (fun acc x => ins x acc) []
theorem sortU_snoc (l : List By) (x : By) : sortU (l ++ [x]) = ins x (sortU l) := by simp [sortU]
theorem sortU_take (l : List By) (k : Nat) (x : By) (h : l[k]? = some x) : sortU (l.take (k + 1)) = ins x (sortU (l.take k)) := by
  rw [List.take_add_one, h]; exact sortU_snoc _ _
theorem sortU_mem (l : List By) : ∀ x, x ∈ sortU l ↔ x ∈ l := by
  induction l using snocRec with
  | nil => simp [sortU]
  | append_singleton l a ih =>
    intro x
    rw [sortU_snoc, ins_mem, ih x, List.mem_append, List.mem_singleton]
    exact Or.comm
theorem sortU_pw (l : List By) : (sortU l).Pairwise Lt := by
  induction l using snocRec with
  | nil => simp [sortU]
  | append_singleton l a ih => rw [sortU_snoc]; exact ins_pw _ _ ih
theorem ins_len (x : By) (l : List By) : (ins x l).length ≤ l.length + 1 := by
  rw [ins_eq]
  split
  · omega
  · have := posOf_le x l
    simp; omega
theorem sortU_len (l : List By) : (sortU l).length ≤ l.length := by
  induction l using snocRec with
  | nil => simp [sortU]
  | append_singleton l a ih => rw [sortU_snoc]; have := ins_len a (sortU l); simp; omega
/-- The program's way to it. -/
theorem sort_nub (l : List By) : sortB' (nub l) = sortU l := by
  have h1 : (sortB' (nub l)).Pairwise fun a b => decide (a ≤ b) = true := List.pairwise_mergeSort
    (fun a b c h k => by simp only [decide_eq_true_eq] at *; exact List.le_trans h k)
    (fun a b => by simp only [Bool.or_eq_true, decide_eq_true_eq]; exact List.le_total a b) _
  have h2 : (sortB' (nub l)).Nodup := (List.mergeSort_perm _ _).nodup_iff.2 (nub_nodup l)
  have h3 : (sortB' (nub l)).Pairwise Lt := by
    refine (h1.and h2).imp fun {a b} h => ?_
    exact ⟨by simpa using h.1, h.2⟩
  refine ext_of_pw h3 (sortU_pw l) fun x => ?_
  rw [sortB', List.mem_mergeSort, nub_mem, sortU_mem]
end Go.Pv
namespace Go.Pv
/-- A row of the call's own, empty or not. -/
def Own (H : Heap) (d : D) (e : TypeId) (l : List D) : Prop := ∃ i, i < H.nx ∧ d = .row i e 0 l.length ∧ H.get i = some (.row e l)
theorem own_app {H : Heap} {d : D} {e b : Nat} {l : List D} (m : List D) (h : Own H d e l) (hb : (l.length + m.length) * b ≤ 140737488355328) :
    ∃ d' H', appK e b d (some m) H = some (d', H') ∧ Own H' d' e (l ++ m) ∧ H.nx ≤ H'.nx ∧ ∀ j, j < H.nx → NotIt d j → H'.get j = H.get j ∧ NotIt d' j := by
  obtain ⟨i, h1, rfl, h3⟩ := h
  by_cases hm : m = []
  · subst hm
    refine ⟨_, H, by simp [appK, isSliceD], ⟨i, h1, by simp, by simpa using h3⟩, Nat.le_refl _, fun j hj hn => ⟨rfl, hn⟩⟩
  · have he : m.isEmpty = false := by cases m with | nil => exact absurd rfl hm | cons a m => rfl
    refine ⟨.row H.nx e 0 (l.length + m.length), (H.put i none).new (.row e (l ++ m)), ?_, ⟨H.nx, by simp, by simp, Heap.new_same (H.put i none) _⟩, by simp, fun j hj hn => ?_⟩
    · simp [appK, isSliceD, he, onto, hb, h3]
    · have hji : j ≠ i := fun q => hn e 0 l.length (by rw [q])
      refine ⟨by rw [Heap.new_ne _ _ (by simp; omega), Heap.put_ne _ _ hji], fun e o n q => ?_⟩
      cases q; omega
theorem own_new {H : Heap} {d : D} {e : TypeId} {l : List D} (h : Own H d e l) (o : PObj) : Own (H.new o) d e l := by
  obtain ⟨i, h1, h2, h3⟩ := h
  exact ⟨i, by rw [Heap.new_nx]; omega, h2, by rw [Heap.new_ne _ _ (by omega)]; exact h3⟩
theorem own_fz {P : Program} {H : Heap} {d : D} {e : TypeId} {l l' : List D} {n : Nat} (h : Own H d e l) (hl : l ≠ []) (hm : mapO (fz P n H) l = some l') : fz P (n + 1) H d = some (frD e l') := by
  obtain ⟨i, h1, rfl, h3⟩ := h
  exact Grow.fz (.of h1 h3 hl) hm
/-- An append onto a row of the call's own, and what follows. -/
theorem oK_own {H : Heap} {d : D} {e b : Nat} {l m : List D} {K : D × Heap → Prop} (h : Own H d e l) (hb : (l.length + m.length) * b ≤ 140737488355328)
    (hk : ∀ d' H', Own H' d' e (l ++ m) → H.nx ≤ H'.nx → (∀ j, j < H.nx → NotIt d j → H'.get j = H.get j ∧ NotIt d' j) → K (d', H')) : oK (appK e b d (some m) H) K := by
  obtain ⟨d', H', h1, h2, h3, h4⟩ := own_app m h hb
  rw [h1]
  exact hk d' H' h2 h3 h4
theorem own_none (H : Heap) (e : TypeId) : Own (H.new (.row e [])) (.row H.nx e 0 0) e [] := ⟨H.nx, by simp, rfl, Heap.new_same _ _⟩
end Go.Pv
