/- A part of the proof: functions of the program, walked, or what operations come to. -/
import Derived.Test.YtaglagcanhiemaaDoorPvGen
import Derived.Test.YtaglagcanhiemaaDoorPvApp
/-! ### Digits, and parts of a text: plain laws -/
namespace Go.Pv
abbrev By := List UInt8
theorem snocRec {α : Type} {p : List α → Prop} (l : List α) (nil : p []) (append_singleton : ∀ l a, p l → p (l ++ [a])) : p l := by
  rw [← List.reverse_reverse l]
  induction l.reverse with
  | nil => exact nil
  | cons a m ih => rw [List.reverse_cons]; exact append_singleton _ _ ih
def sD (l : By) : D := .val (.string ⟨l.toArray⟩)
theorem byteAt_of {l : List UInt8} {k : Nat} {c : UInt8} (h : l[k]? = some c) : byteAt l k = (c.toNat : Int) := by simp [byteAt, List.getD, h]
theorem toNat_lt (c : UInt8) : c.toNat < 256 := c.toNat_lt
/-- The first byte. -/
def hd0 (l : By) : UInt8 := l.headD 0
@[simp] theorem hd0_cons (c : UInt8) (l : By) : hd0 (c :: l) = c := rfl
theorem hd0_of {l : By} {c : UInt8} (h : l[0]? = some c) : hd0 l = c := by cases l with | nil => cases h | cons a l => simpa [hd0] using h
def isDig (c : UInt8) : Bool := decide (48 ≤ c.toNat ∧ c.toNat ≤ 57)
def digVal (l : By) : Nat := l.foldl (fun n c => n * 10 + (c.toNat - 48)) 0
def numOk (l : By) : Bool := !l.isEmpty && l.all isDig && decide (l.length ≤ 18) && (decide (l.length ≤ 1) || decide (hd0 l ≠ 48))
def readDigits (l : By) : Option Nat := if numOk l = true then some (digVal l) else none
def digits (n : Nat) : By := if h : n < 10 then [UInt8.ofNat (48 + n)] else digits (n / 10) ++ [UInt8.ofNat (48 + n % 10)]
theorem digits_lt (n : Nat) (h : n < 10) : digits n = [UInt8.ofNat (48 + n)] := by rw [digits, dif_pos h]
theorem digits_ge (n : Nat) (h : ¬ n < 10) : digits n = digits (n / 10) ++ [UInt8.ofNat (48 + n % 10)] := by rw [digits, dif_neg h]
theorem dig_nat (k : Nat) (h : k < 10) : (UInt8.ofNat (48 + k)).toNat = 48 + k := by simp [UInt8.toNat_ofNat]; omega
theorem digits_all (n : Nat) : (digits n).all isDig = true := by
  induction n using Nat.strongRecOn with
  | _ n ih =>
    by_cases h : n < 10
    · rw [digits_lt n h]; simp only [List.all_cons, List.all_nil, Bool.and_true, isDig, dig_nat n h]; simp; omega
    · rw [digits_ge n h, List.all_append, ih (n / 10) (by omega)]
      simp only [List.all_cons, List.all_nil, Bool.and_true, isDig, dig_nat (n % 10) (by omega)]; simp; omega
theorem digits_ne (n : Nat) : digits n ≠ [] := by
  by_cases h : n < 10
  · rw [digits_lt n h]; simp
  · rw [digits_ge n h]; simp
@[simp] theorem digVal_nil : digVal [] = 0 := rfl
theorem digVal_snoc (l : By) (c : UInt8) : digVal (l ++ [c]) = digVal l * 10 + (c.toNat - 48) := by simp [digVal]
theorem digVal_digits (n : Nat) : digVal (digits n) = n := by
  induction n using Nat.strongRecOn with
  | _ n ih =>
    by_cases h : n < 10
    · rw [digits_lt n h]; simp only [digVal, List.foldl_cons, List.foldl_nil, dig_nat n h]; omega
    · rw [digits_ge n h, digVal_snoc, ih (n / 10) (by omega), dig_nat _ (by omega)]; omega
theorem digits_len (k : Nat) : ∀ n, n < 10 ^ (k + 1) → (digits n).length ≤ k + 1 := by
  induction k with
  | zero => intro n h; rw [digits_lt n (by simpa using h)]; simp
  | succ k ih =>
    intro n h
    by_cases h1 : n < 10
    · rw [digits_lt n h1]; simp
    · rw [digits_ge n h1, List.length_append]
      have := ih (n / 10) (by have : 10 ^ (k + 1 + 1) = 10 ^ (k + 1) * 10 := Nat.pow_succ ..; omega)
      simp; omega
theorem digits_head (n : Nat) (h : 0 < n) : hd0 (digits n) ≠ 48 := by
  induction n using Nat.strongRecOn with
  | _ n ih =>
    by_cases h1 : n < 10
    · rw [digits_lt n h1]
      simp only [hd0_cons]
      intro e
      have := congrArg UInt8.toNat e
      rw [dig_nat n h1] at this
      have e48 : (48 : UInt8).toNat = 48 := rfl
      omega
    · rw [digits_ge n h1]
      have h2 := ih (n / 10) (by omega) (by omega)
      cases hd : digits (n / 10) with
      | nil => exact absurd hd (digits_ne _)
      | cons a l => rw [hd] at h2; simpa using h2
theorem read_digits (n : Nat) (h : n < 10 ^ 18) : readDigits (digits n) = some n := by
  unfold readDigits
  rw [if_pos, digVal_digits]
  have h1 : (digits n).length ≤ 18 := digits_len 17 n h
  have h2 := digits_ne n
  simp only [numOk, digits_all, Bool.and_true, Bool.and_eq_true, Bool.not_eq_true', List.isEmpty_eq_false_iff, decide_eq_true_eq, Bool.or_eq_true]
  refine ⟨⟨h2, h1⟩, ?_⟩
  rcases Nat.eq_zero_or_pos n with rfl | h3
  · left; rw [digits_lt 0 (by omega)]; simp
  · exact .inr (digits_head n h3)
theorem digVal_pos (l : By) (h : l.all isDig = true) (h0 : l ≠ []) (h1 : hd0 l ≠ 48) : 0 < digVal l := by
  induction l using snocRec with
  | nil => exact absurd rfl h0
  | append_singleton l c ih =>
    rw [digVal_snoc]
    rw [List.all_append, Bool.and_eq_true] at h
    by_cases h2 : l = []
    · subst h2
      simp only [List.nil_append, hd0_cons] at h1
      have hc : isDig c = true := by simpa using h.2
      simp only [isDig, decide_eq_true_eq] at hc
      have : c.toNat ≠ 48 := fun e => h1 (UInt8.toNat_inj.1 (by rw [e]; rfl))
      omega
    · have := ih h.1 h2 (by cases l with | nil => exact absurd rfl h2 | cons a l => simpa using h1)
      omega
theorem digits_digVal : ∀ (l : By), l.all isDig = true → l ≠ [] → (l.length ≤ 1 ∨ hd0 l ≠ 48) → digits (digVal l) = l := by
  intro l
  induction l using snocRec with
  | nil => intro _ h; exact absurd rfl h
  | append_singleton l c ih =>
    intro h h0 h1
    rw [List.all_append, Bool.and_eq_true] at h
    have hc : isDig c = true := by simpa using h.2
    simp only [isDig, decide_eq_true_eq] at hc
    have hcc : UInt8.ofNat (48 + (c.toNat - 48)) = c := by
      rw [show 48 + (c.toNat - 48) = c.toNat by omega]; exact UInt8.ofNat_toNat
    rw [digVal_snoc]
    by_cases h2 : l = []
    · subst h2
      rw [digits_lt _ (by simp [digVal]; omega)]
      simp [digVal, hcc]
    · have h3 : hd0 l ≠ 48 := by
        rcases h1 with h1 | h1
        · have hz : l.length ≠ 0 := fun q => h2 (List.eq_nil_of_length_eq_zero q)
          rw [List.length_append, List.length_singleton] at h1; omega
        · cases l with | nil => exact absurd rfl h2 | cons a l => simpa using h1
      have hp := digVal_pos l h.1 h2 h3
      rw [digits_ge _ (by omega), show (digVal l * 10 + (c.toNat - 48)) / 10 = digVal l by omega, show (digVal l * 10 + (c.toNat - 48)) % 10 = c.toNat - 48 by omega, ih h.1 h2 (.inr h3), hcc]
theorem digits_read {l : By} {n : Nat} (h : readDigits l = some n) : digits n = l := by
  unfold readDigits at h
  split at h
  · cases h
    rename_i h
    simp only [numOk, Bool.and_eq_true, Bool.not_eq_true', List.isEmpty_eq_false_iff, decide_eq_true_eq, Bool.or_eq_true] at h
    exact digits_digVal l h.1.1.2 h.1.1.1 h.2
  · cases h
theorem digVal_lt (l : By) (ha : l.all isDig = true) : digVal l < 10 ^ l.length := by
  induction l using snocRec with
  | nil => simp [digVal]
  | append_singleton l c ih =>
    rw [List.all_append, Bool.and_eq_true] at ha
    have := ih ha.1
    have hc : isDig c = true := by simpa using ha.2
    simp only [isDig, decide_eq_true_eq] at hc
    rw [digVal_snoc, List.length_append, List.length_singleton, Nat.pow_succ]
    omega
theorem wrapI (z : Int) (h1 : -9223372036854775808 ≤ z) (h2 : z ≤ 9223372036854775807) : IntKind.i64.wrap z = z := by
  simp [IntKind.wrap, IntKind.bits, IntKind.signed]; omega
theorem wrapB (z : Int) (h1 : 0 ≤ z) (h2 : z ≤ 255) : IntKind.u8.wrap z = z := by
  simp [IntKind.wrap, IntKind.bits, IntKind.signed]; omega
theorem digVal_take (l : By) (k : Nat) (c : UInt8) (h : l[k]? = some c) : digVal (l.take (k + 1)) = digVal (l.take k) * 10 + (c.toNat - 48) := by
  rw [List.take_add_one, h]; exact digVal_snoc _ _
theorem readDigits_lt {l : By} {n : Nat} (h : readDigits l = some n) : n < 10 ^ l.length := by
  unfold readDigits at h
  split at h
  · cases h
    rename_i h
    simp only [numOk, Bool.and_eq_true] at h
    have ha := h.1.1.2
    clear h
    induction l using snocRec with
    | nil => simp [digVal]
    | append_singleton l c ih =>
      rw [List.all_append, Bool.and_eq_true] at ha
      have := ih ha.1
      have hc : isDig c = true := by simpa using ha.2
      simp only [isDig, decide_eq_true_eq] at hc
      rw [digVal_snoc, List.length_append, List.length_singleton, Nat.pow_succ]
      omega
  · cases h
/-! Parts between signs. -/
def splitB (c : UInt8) : By → List By
  | [] => [[]]
  | x :: l => if x = c then [] :: splitB c l else match splitB c l with
    | p :: ps => (x :: p) :: ps
    | [] => [[x]]
def joinB (c : UInt8) : List By → By
  | [] => []
  | [p] => p
  | p :: q :: ps => p ++ c :: joinB c (q :: ps)
theorem splitB_ne (c : UInt8) (l : By) : splitB c l ≠ [] := by
  cases l with
  | nil => simp [splitB]
  | cons x l => simp only [splitB]; split; · simp
                split <;> simp
theorem joinB_cons (c : UInt8) (p : By) (ps : List By) (h : ps ≠ []) : joinB c (p :: ps) = p ++ c :: joinB c ps := by
  cases ps with
  | nil => exact absurd rfl h
  | cons q ps => rfl
theorem join_split (c : UInt8) : ∀ l, joinB c (splitB c l) = l
  | [] => rfl
  | x :: l => by
    have ih := join_split c l
    simp only [splitB]
    split
    · rename_i e; subst e
      rw [joinB_cons _ _ _ (splitB_ne _ _), ih]; rfl
    · cases h : splitB c l with
      | nil => exact absurd h (splitB_ne _ _)
      | cons p ps =>
        rw [h] at ih
        simp only
        cases ps with
        | nil => simp only [joinB] at ih ⊢; rw [ih]
        | cons q ps => rw [joinB_cons _ _ _ (by simp)] at ih ⊢; rw [← ih]; rfl
theorem splitB_free (c : UInt8) : ∀ l, ∀ p ∈ splitB c l, c ∉ p
  | [] => by simp [splitB]
  | x :: l => by
    have ih := splitB_free c l
    simp only [splitB]
    split
    · intro p hp
      rcases List.mem_cons.1 hp with rfl | hp
      · simp
      · exact ih p hp
    · rename_i hne
      cases h : splitB c l with
      | nil => exact absurd h (splitB_ne _ _)
      | cons q ps =>
        rw [h] at ih
        intro p hp
        rcases List.mem_cons.1 hp with rfl | hp
        · intro hm
          rcases List.mem_cons.1 hm with e | hm
          · exact hne e.symm
          · exact ih q (by simp) hm
        · exact ih p (by simp [hp])
theorem splitB_plain (c : UInt8) : ∀ p : By, c ∉ p → splitB c p = [p]
  | [], _ => rfl
  | x :: p, h => by
    have h1 : x ≠ c := fun e => h (by simp [e])
    rw [splitB, if_neg h1, splitB_plain c p (fun q => h (by simp [q]))]
theorem splitB_app (c : UInt8) : ∀ (p l : By), c ∉ p → splitB c (p ++ c :: l) = p :: splitB c l
  | [], l, _ => by simp [splitB]
  | x :: p, l, h => by
    have h1 : x ≠ c := fun e => h (by simp [e])
    rw [List.cons_append, splitB, if_neg h1, splitB_app c p l (fun q => h (by simp [q]))]
theorem split_join (c : UInt8) : ∀ ps : List By, ps ≠ [] → (∀ p ∈ ps, c ∉ p) → splitB c (joinB c ps) = ps
  | [], h, _ => absurd rfl h
  | [p], _, h => splitB_plain c p (h p (by simp))
  | p :: q :: ps, _, h => by
    rw [joinB_cons _ _ _ (by simp), splitB_app c p _ (h p (by simp)), split_join c (q :: ps) (by simp) (fun x hx => h x (by simp [hx]))]
end Go.Pv
/-! ### Slices that grow -/
namespace Go.Pv
@[simp] theorem noHeap_nx (G : Nat → Option (List D)) : (noHeap G).nx = 0 := rfl
@[simp] theorem okPart_by (c : UInt8) : okPart (byD c) = true := rfl
@[simp] theorem cellsD_by (c : UInt8) : cellsD (byD c) = [byD c] := rfl
@[simp] theorem oneD_by (c : UInt8) : oneD (byD c) = true := rfl
/-- A slice that grows: nil, or a row of the call's own. -/
def Grow (H : Heap) (d : D) (e : TypeId) (l : List D) : Prop := (l = [] ∧ d = .slice 1 0 []) ∨ ∃ i, i < H.nx ∧ d = .row i e 0 l.length ∧ H.get i = some (.row e l) ∧ l ≠ []
/-- It isn't object j. -/
def NotIt (d : D) (j : Nat) : Prop := ∀ e o n, d ≠ .row j e o n
theorem Grow.nil (H : Heap) (e : TypeId) : Grow H (.slice 1 0 []) e [] := .inl ⟨rfl, rfl⟩
theorem Grow.new {H : Heap} {d : D} {e : TypeId} {l : List D} (h : Grow H d e l) (o : PObj) : Grow (H.new o) d e l := by
  rcases h with h | ⟨i, h1, h2, h3⟩
  · exact .inl h
  · exact .inr ⟨i, by rw [Heap.new_nx]; omega, h2, by rw [Heap.new_ne _ _ (by omega)]; exact h3.1, h3.2⟩
theorem NotIt.new {H : Heap} {d : D} {e : TypeId} {l : List D} (h : Grow H d e l) : NotIt d H.nx := by
  rcases h with ⟨_, h⟩ | ⟨i, h1, h2, h3⟩
  · intro e o n q; rw [h] at q; cases q
  · intro e o n q; rw [h2] at q; cases q; omega
theorem grow_app {H : Heap} {d : D} {e b : Nat} {l m : List D} (h : Grow H d e l) (hm : m ≠ []) (hb : (l.length + m.length) * b ≤ 140737488355328) :
    ∃ d' H', appK e b d (some m) H = some (d', H') ∧ Grow H' d' e (l ++ m) ∧ H'.nx = H.nx + 1 ∧ H'.G = H.G ∧ ∀ j, j < H.nx → NotIt d j → H'.get j = H.get j ∧ NotIt d' j := by
  have he : m.isEmpty = false := by cases m with | nil => exact absurd rfl hm | cons a m => rfl
  rcases h with ⟨rfl, rfl⟩ | ⟨i, h1, rfl, h3, h0⟩
  · refine ⟨.row H.nx e 0 m.length, H.new (.row e m), ?_, ?_, rfl, rfl, ?_⟩
    · simp only [List.length_nil, Nat.zero_add] at hb
      simp [appK, isSliceD, he, onto, hb]
    · exact .inr ⟨H.nx, by simp, by simp, by simp, by simpa using hm⟩
    · intro j hj hn
      refine ⟨Heap.new_ne _ _ (by omega), fun e o n q => ?_⟩
      cases q; omega
  · refine ⟨.row H.nx e 0 (l.length + m.length), (H.put i none).new (.row e (l ++ m)), ?_, ?_, rfl, rfl, ?_⟩
    · simp [appK, isSliceD, he, onto, hb, h3]
    · exact .inr ⟨H.nx, by simp, by simp, Heap.new_same (H.put i none) _, by simp [h0]⟩
    · intro j hj hn
      have hji : j ≠ i := fun q => hn e 0 l.length (by rw [q])
      refine ⟨by rw [Heap.new_ne _ _ (by simp; omega), Heap.put_ne _ _ hji], fun e o n q => ?_⟩
      cases q; omega
/-- One element more, laid in a row of its own ahead of that. -/
theorem grow_one {H : Heap} {d : D} {e b : Nat} {l : List D} (x : D) (h : Grow H d e l) (hb : (l.length + 1) * b ≤ 140737488355328) :
    ∃ d' H', appK e b d (some [x]) (H.new (.row e [x])) = some (d', H') ∧ Grow H' d' e (l ++ [x]) ∧ H'.nx = H.nx + 2 ∧ H'.G = H.G ∧ ∀ j, j < H.nx → NotIt d j → H'.get j = H.get j ∧ NotIt d' j := by
  obtain ⟨d', H', h1, h2, h3, h4, h5⟩ := grow_app (h.new (.row e [x])) (m := [x]) (by simp) (b := b) (by simpa using hb)
  refine ⟨d', H', h1, h2, by rw [h3]; rfl, h4, fun j hj hn => ?_⟩
  obtain ⟨k1, k2⟩ := h5 j (by rw [Heap.new_nx]; omega) hn
  exact ⟨by rw [k1, Heap.new_ne _ _ (by omega)], k2⟩
theorem oK_app {H : Heap} {d : D} {e b : Nat} {l m : List D} {K : D × Heap → Prop} (h : Grow H d e l) (hm : m ≠ []) (hb : (l.length + m.length) * b ≤ 140737488355328)
    (hk : ∀ d' H', Grow H' d' e (l ++ m) → H'.nx = H.nx + 1 → H'.G = H.G → (∀ j, j < H.nx → NotIt d j → H'.get j = H.get j ∧ NotIt d' j) → K (d', H')) : oK (appK e b d (some m) H) K := by
  obtain ⟨d', H', h1, h2, h3, h4, h5⟩ := grow_app h hm hb
  rw [h1]
  exact hk d' H' h2 h3 h4 h5
theorem oK_grow {H : Heap} {d x : D} {e b : Nat} {l : List D} {K : D × Heap → Prop} (h : Grow H d e l) (hb : (l.length + 1) * b ≤ 140737488355328)
    (hk : ∀ d' H', Grow H' d' e (l ++ [x]) → H'.nx = H.nx + 2 → H'.G = H.G → (∀ j, j < H.nx → NotIt d j → H'.get j = H.get j ∧ NotIt d' j) → K (d', H')) : oK (appK e b d (some [x]) (H.new (.row e [x]))) K := by
  obtain ⟨d', H', h1, h2, h3, h4, h5⟩ := grow_one x h hb
  rw [h1]
  exact hk d' H' h2 h3 h4 h5
/-- What is handed back of it. -/
def frD (e : TypeId) (l : List D) : D := if l = [] then .slice 1 0 [] else .slice 0 e l
theorem Grow.fz {P : Program} {H : Heap} {d : D} {e : TypeId} {l l' : List D} {n : Nat} (h : Grow H d e l) (hm : mapO (fz P n H) l = some l') : fz P (n + 1) H d = some (frD e l') := by
  rcases h with ⟨rfl, rfl⟩ | ⟨i, h1, rfl, h3, h0⟩
  · cases hm; rfl
  · rw [Pv.fz]
    simp only [h3]
    rw [if_pos ⟨trivial, by omega⟩, List.drop_zero, List.take_length, hm]
    simp only [frD]
    have hl := mapO_len hm
    by_cases q : l' = []
    · exact absurd (List.eq_nil_of_length_eq_zero (by rw [← hl, q]; rfl)) h0
    · rw [if_neg q, if_neg (fun q2 => q (List.eq_nil_of_length_eq_zero (by omega)))]
/-! A row that is filled from its beginning on. -/
def fill {α : Type} (L : List α) (k : Nat) (z : α) : List α := L.take k ++ List.replicate (L.length - k) z
theorem fill_zero {α : Type} (L : List α) (z : α) : fill L 0 z = List.replicate L.length z := by simp [fill]
theorem fill_all {α : Type} (L : List α) (z : α) : fill L L.length z = L := by simp [fill]
@[simp] theorem fill_len {α : Type} (L : List α) (k : Nat) (z : α) (h : k ≤ L.length) : (fill L k z).length = L.length := by simp [fill]; omega
theorem fill_get {α : Type} (L : List α) (k : Nat) (z : α) (h : k < L.length) : (fill L k z)[k]? = some z := by
  rw [fill, List.getElem?_append_right (by simp; omega)]
  have : k - (L.take k).length = 0 := by simp; omega
  rw [this, List.getElem?_replicate, if_pos (by omega)]
theorem fill_set {α : Type} (L : List α) (k : Nat) (z x : α) (h : L[k]? = some x) : (fill L k z).set k x = fill L (k + 1) z := by
  have hk : k < L.length := (List.getElem?_eq_some_iff.1 h).1
  have h1 : (L.take k).length = k := by simp; omega
  rw [fill, fill, List.set_append_right _ _ (by omega), h1, Nat.sub_self, List.take_add_one, h]
  obtain ⟨m, hm⟩ : ∃ m, L.length - k = m + 1 := ⟨L.length - k - 1, by omega⟩
  rw [hm, show L.length - (k + 1) = m by omega, List.replicate_succ]
  simp
@[simp] theorem setIn_val (v : Value) (d : D) : setIn (.val v) 0 [d] = d := rfl
theorem fz_vals {P : Program} {α : Type} (f : α → Value) (n : Nat) (H : Heap) : ∀ l : List α, mapO (fz P (n + 1) H) (l.map fun x => D.val (f x)) = some (l.map fun x => D.val (f x))
  | [] => rfl
  | a :: l => by rw [List.map_cons, mapO, fz_vals f n H l]; rfl
end Go.Pv
