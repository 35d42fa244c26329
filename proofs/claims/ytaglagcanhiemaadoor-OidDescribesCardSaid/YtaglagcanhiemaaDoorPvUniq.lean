/- A part of the proof: functions of the program, walked, or what operations come to. -/
import Derived.Lib.SlicesCompact
import Derived.Test.YtaglagcanhiemaaDoorPvN3
namespace Go.Pv
open Go.Lib
/-! ### Sorted lists, each element once -/
abbrev Bs := List UInt8
def Lt (a b : Bs) : Prop := a ≤ b ∧ a ≠ b
theorem mem_compactUpTo (d : Array Bs) (x : Bs) : ∀ m, x ∈ compactUpTo d m ↔ ∃ j, j < m ∧ d[j]! = x
  | 0 => by simp [compactUpTo]
  | m + 1 => by
    rw [compactUpTo_succ, List.mem_append, mem_compactUpTo d x m]
    constructor
    · rintro (⟨j, h1, h2⟩ | h)
      · exact ⟨j, by omega, h2⟩
      · split at h
        · exact ⟨m, by omega, by simp only [List.mem_singleton] at h; exact h.symm⟩
        · cases h
    · rintro ⟨j, h1, h2⟩
      by_cases hj : j < m
      · exact .inl ⟨j, hj, h2⟩
      · obtain rfl : j = m := by omega
        by_cases hk : keeps d j = true
        · right; rw [if_pos hk]; simp [h2]
        · left
          have : ¬ (j = 0 ∨ d[j]! ≠ d[j - 1]!) := by simpa [keeps] using hk
          have h3 : j ≠ 0 := fun q => this (.inl q)
          have h4 : d[j]! = d[j - 1]! := Decidable.byContradiction fun q => this (.inr q)
          exact ⟨j - 1, by omega, by rw [← h4]; exact h2⟩
theorem mem_compact (l : List Bs) (x : Bs) : x ∈ compact l ↔ x ∈ l := by
  rw [compact, mem_compactUpTo, List.mem_iff_getElem]
  constructor
  · rintro ⟨j, h1, h2⟩
    refine ⟨j, h1, ?_⟩
    have : l.toArray[j]! = l[j] := by simp [h1]
    rw [← this, h2]
  · rintro ⟨j, h1, h2⟩
    refine ⟨j, h1, ?_⟩
    have : l.toArray[j]! = l[j] := by simp [h1]
    rw [this, h2]
theorem compactUpTo_pw (d : Array Bs) (hs : ∀ i j, i < j → j < d.size → d[i]! ≤ d[j]!) : ∀ m, m ≤ d.size → (compactUpTo d m).Pairwise Lt
  | 0, _ => by simp [compactUpTo]
  | m + 1, hm => by
    rw [compactUpTo_succ]
    by_cases hk : keeps d m = true
    · rw [if_pos hk, List.pairwise_append]
      refine ⟨compactUpTo_pw d hs m (by omega), by simp, fun a ha b hb => ?_⟩
      simp only [List.mem_singleton] at hb
      subst hb
      obtain ⟨j, h1, rfl⟩ := (mem_compactUpTo d a m).1 ha
      refine ⟨hs j m h1 (by omega), fun q => ?_⟩
      have hk' : m = 0 ∨ d[m]! ≠ d[m - 1]! := by simpa [keeps] using hk
      rcases hk' with h | h
      · omega
      · apply h
        by_cases e : j = m - 1
        · rw [← e, q]
        · have h3 := hs j (m - 1) (by omega) (by omega)
          have h4 := hs (m - 1) m (by omega) (by omega)
          rw [q] at h3
          exact List.le_antisymm h3 h4
    · rw [if_neg hk, List.append_nil]
      exact compactUpTo_pw d hs m (by omega)
def sortB' (l : List Bs) : List Bs := l.mergeSort fun x y => decide (x ≤ y)
theorem compact_sort_pw (l : List Bs) : (compact (sortB' l)).Pairwise Lt := by
  have hp : (sortB' l).Pairwise fun a b => decide (a ≤ b) = true := List.pairwise_mergeSort
    (fun a b c h k => by simp only [decide_eq_true_eq] at *; exact List.le_trans h k)
    (fun a b => by simp only [Bool.or_eq_true, decide_eq_true_eq]; exact List.le_total a b) l
  refine compactUpTo_pw _ (fun i j hij hj => ?_) _ (by simp)
  have hj' : j < (sortB' l).length := by simpa using hj
  have h1 : (sortB' l).toArray[i]! = (sortB' l)[i] := by simp [show i < (sortB' l).length by omega]
  have h2 : (sortB' l).toArray[j]! = (sortB' l)[j] := by simp [hj']
  rw [h1, h2]
  have := List.pairwise_iff_getElem.1 hp i j (by omega) hj' hij
  simpa using this
theorem ext_of_pw : ∀ {l l' : List Bs}, l.Pairwise Lt → l'.Pairwise Lt → (∀ x, x ∈ l ↔ x ∈ l') → l = l'
  | [], [], _, _, _ => rfl
  | [], b :: t', _, _, hm => absurd ((hm b).2 (by simp)) (by simp)
  | a :: t, [], _, _, hm => absurd ((hm a).1 (by simp)) (by simp)
  | a :: t, b :: t', h, h', hm => by
    rw [List.pairwise_cons] at h h'
    have hab : a = b := by
      have h1 := (hm a).1 (by simp)
      have h2 := (hm b).2 (by simp)
      rcases List.mem_cons.1 h1 with e | e1
      · exact e
      · rcases List.mem_cons.1 h2 with e | e2
        · exact e.symm
        · exact List.le_antisymm (h.1 b e2).1 (h'.1 a e1).1
    subst hab
    rw [ext_of_pw h.2 h'.2 fun x => ?_]
    constructor
    · intro hx
      rcases List.mem_cons.1 ((hm x).1 (by simp [hx])) with e | e
      · subst e; exact absurd rfl (h.1 x hx).2
      · exact e
    · intro hx
      rcases List.mem_cons.1 ((hm x).2 (by simp [hx])) with e | e
      · subst e; exact absurd rfl (h'.1 x hx).2
      · exact e
theorem cs_mem (l : List Bs) (x : Bs) : x ∈ compact (sortB' l) ↔ x ∈ l := by rw [mem_compact, sortB', List.mem_mergeSort]
theorem cs_ext {l l' : List Bs} (h : ∀ x, x ∈ l ↔ x ∈ l') : compact (sortB' l) = compact (sortB' l') :=
  ext_of_pw (compact_sort_pw l) (compact_sort_pw l') fun x => by rw [cs_mem, cs_mem]; exact h x
end Go.Pv
/-! ### Descriptions: plain laws -/
namespace Go.Pv
/-- Each thing once, where it came first. -/
def nub (l : List By) : List By := l.foldl (fun acc x => if x ∈ acc then acc else acc ++ [x]) []
theorem nub_snoc (l : List By) (x : By) : nub (l ++ [x]) = if x ∈ nub l then nub l else nub l ++ [x] := by unfold nub; rw [List.foldl_append]; rfl
theorem nub_mem (l : List By) : ∀ x, x ∈ nub l ↔ x ∈ l := by
  induction l using snocRec with
  | nil => simp [nub]
  | append_singleton l a ih =>
    intro x
    rw [nub_snoc]
    split
    · rename_i h
      rw [ih x, List.mem_append]
      constructor
      · exact .inl
      · rintro (h1 | h1)
        · exact h1
        · rw [List.mem_singleton] at h1; subst h1; exact (ih x).1 h
    · rw [List.mem_append, List.mem_append, ih x]
theorem nub_len (l : List By) : (nub l).length ≤ l.length := by
  induction l using snocRec with
  | nil => simp [nub]
  | append_singleton l a ih => rw [nub_snoc]; split <;> simp <;> omega
theorem nub_nodup (l : List By) : (nub l).Nodup := by
  induction l using snocRec with
  | nil => simp [nub]
  | append_singleton l a ih =>
    rw [nub_snoc]
    split
    · exact ih
    · rename_i h
      rw [List.nodup_append]
      exact ⟨ih, by simp, fun x hx y hy => by rw [List.mem_singleton] at hy; subst hy; exact fun e => h (e ▸ hx)⟩
theorem nub_take (l : List By) (k : Nat) (x : By) (h : l[k]? = some x) : nub (l.take (k + 1)) = if x ∈ nub (l.take k) then nub (l.take k) else nub (l.take k) ++ [x] := by
  rw [List.take_add_one, h]; exact nub_snoc _ _
theorem nub_nil (l : List By) : nub l = [] ↔ l = [] := by
  constructor
  · intro h
    cases l with
    | nil => rfl
    | cons a l => have := (nub_mem (a :: l) a).2 (by simp); rw [h] at this; cases this
  · rintro rfl; rfl
/-- Something put into a row in order, once. -/
def ins (x : By) : List By → List By
  | [] => [x]
  | y :: ys => if y < x then y :: ins x ys else if y = x then y :: ys else x :: y :: ys
/-- How many come ahead of something. -/
def posOf (x : By) : List By → Nat
  | [] => 0
  | y :: ys => if y < x then posOf x ys + 1 else 0
theorem posOf_le (x : By) : ∀ l, posOf x l ≤ l.length
  | [] => Nat.le_refl _
  | y :: ys => by rw [posOf]; split; exact Nat.succ_le_succ (posOf_le x ys); exact Nat.zero_le _
theorem posOf_lt (x : By) : ∀ (l : List By) (k : Nat) (y : By), k < posOf x l → l[k]? = some y → y < x
  | [], k, y, h, _ => by simp [posOf] at h
  | z :: ys, k, y, h, hy => by
    rw [posOf] at h
    split at h
    · cases k with
      | zero => simp at hy; subst hy; assumption
      | succ k => exact posOf_lt x ys k y (by omega) (by simpa using hy)
    · omega
theorem posOf_at (x : By) : ∀ (l : List By) (y : By), l[posOf x l]? = some y → ¬ y < x
  | [], y, hy => by simp [posOf] at hy
  | z :: ys, y, hy => by
    rw [posOf] at hy
    split at hy
    · exact posOf_at x ys y (by simpa using hy)
    · simp at hy; subst hy; assumption
theorem ins_eq (x : By) : ∀ l : List By, ins x l = if l[posOf x l]? = some x then l else l.take (posOf x l) ++ x :: l.drop (posOf x l)
  | [] => by simp [ins, posOf]
  | y :: ys => by
    rw [ins, posOf]
    by_cases h : y < x
    · rw [if_pos h, if_pos h, ins_eq x ys]
      simp only [List.getElem?_cons_succ, List.take_succ_cons, List.drop_succ_cons, List.cons_append]
      split <;> rfl
    · rw [if_neg h, if_neg h]
      by_cases e : y = x
      · subst e; simp
      · simp [e]
theorem ins_mem (x : By) : ∀ (l : List By) (z : By), z ∈ ins x l ↔ z = x ∨ z ∈ l
  | [], z => by simp [ins]
  | y :: ys, z => by
    rw [ins]
    split
    · rw [List.mem_cons, ins_mem x ys z, List.mem_cons]
      constructor
      · rintro (h | h | h)
        · exact .inr (.inl h)
        · exact .inl h
        · exact .inr (.inr h)
      · rintro (h | h | h)
        · exact .inr (.inl h)
        · exact .inl h
        · exact .inr (.inr h)
    · split
      · rename_i e; subst e; simp
      · simp
theorem ins_pw (x : By) : ∀ l : List By, l.Pairwise Lt → (ins x l).Pairwise Lt
  | [], _ => by simp [ins]
  | y :: ys, h => by
    rw [List.pairwise_cons] at h
    rw [ins]
    split
    · rename_i hlt
      rw [List.pairwise_cons]
      refine ⟨fun z hz => ?_, ins_pw x ys h.2⟩
      rcases (ins_mem x ys z).1 hz with rfl | hz
      · exact ⟨List.le_of_lt hlt, fun e => by subst e; exact List.lt_irrefl _ hlt⟩
      · exact h.1 z hz
    · rename_i hnlt
      split
      · rw [List.pairwise_cons]; exact h
      · rename_i hne
        have hxy : Lt x y := ⟨List.not_lt.1 hnlt, fun e => hne e.symm⟩
        rw [List.pairwise_cons, List.pairwise_cons]
        refine ⟨fun z hz => ?_, h⟩
        rcases List.mem_cons.1 hz with rfl | hz
        · exact hxy
        · have := h.1 z hz
          exact ⟨List.le_trans hxy.1 this.1, fun e => by subst e; exact hxy.2 (List.le_antisymm hxy.1 this.1)⟩
def sortU (l : List By) : List By := l.foldl (fun acc x => ins x acc) []
theorem sortU_snoc (l : List By) (x : By) : sortU (l ++ [x]) = ins x (sortU l) := by simp [sortU]
theorem sortU_take (l : List By) (k : Nat) (x : By) (h : l[k]? = some x) : sortU (l.take (k + 1)) = ins x (sortU (l.take k)) := by
  rw [List.take_add_one, h]; exact sortU_snoc _ _
theorem sortU_mem (l : List By) : ∀ x, x ∈ sortU l ↔ x ∈ l := by
  induction l using snocRec with
  | nil => simp [sortU]
  | append_singleton l a ih =>
    intro x
    rw [sortU_snoc, ins_mem, ih x, List.mem_append, List.mem_singleton]
    exact Or.comm
theorem sortU_pw (l : List By) : (sortU l).Pairwise Lt := by
  induction l using snocRec with
  | nil => simp [sortU]
  | append_singleton l a ih => rw [sortU_snoc]; exact ins_pw _ _ ih
theorem ins_len (x : By) (l : List By) : (ins x l).length ≤ l.length + 1 := by
  rw [ins_eq]
  split
  · omega
  · have := posOf_le x l
    simp; omega
theorem sortU_len (l : List By) : (sortU l).length ≤ l.length := by
  induction l using snocRec with
  | nil => simp [sortU]
  | append_singleton l a ih => rw [sortU_snoc]; have := ins_len a (sortU l); simp; omega
/-- The program's way to it. -/
theorem sort_nub (l : List By) : sortB' (nub l) = sortU l := by
  have h1 : (sortB' (nub l)).Pairwise fun a b => decide (a ≤ b) = true := List.pairwise_mergeSort
    (fun a b c h k => by simp only [decide_eq_true_eq] at *; exact List.le_trans h k)
    (fun a b => by simp only [Bool.or_eq_true, decide_eq_true_eq]; exact List.le_total a b) _
  have h2 : (sortB' (nub l)).Nodup := (List.mergeSort_perm _ _).nodup_iff.2 (nub_nodup l)
  have h3 : (sortB' (nub l)).Pairwise Lt := by
    refine (h1.and h2).imp fun {a b} h => ?_
    exact ⟨by simpa using h.1, h.2⟩
  refine ext_of_pw h3 (sortU_pw l) fun x => ?_
  rw [sortB', List.mem_mergeSort, nub_mem, sortU_mem]
end Go.Pv
namespace Go.Pv
/-- A row of the call's own, empty or not. -/
def Own (H : Heap) (d : D) (e : TypeId) (l : List D) : Prop := ∃ i, i < H.nx ∧ d = .row i e 0 l.length ∧ H.get i = some (.row e l)
theorem own_app {H : Heap} {d : D} {e b : Nat} {l : List D} (m : List D) (h : Own H d e l) (hb : (l.length + m.length) * b ≤ 140737488355328) :
    ∃ d' H', appK e b d (some m) H = some (d', H') ∧ Own H' d' e (l ++ m) ∧ H.nx ≤ H'.nx ∧ ∀ j, j < H.nx → NotIt d j → H'.get j = H.get j ∧ NotIt d' j := by
  obtain ⟨i, h1, rfl, h3⟩ := h
  by_cases hm : m = []
  · subst hm
    refine ⟨_, H, by simp [appK, isSliceD], ⟨i, h1, by simp, by simpa using h3⟩, Nat.le_refl _, fun j hj hn => ⟨rfl, hn⟩⟩
  · have he : m.isEmpty = false := by cases m with | nil => exact absurd rfl hm | cons a m => rfl
    refine ⟨.row H.nx e 0 (l.length + m.length), (H.put i none).new (.row e (l ++ m)), ?_, ⟨H.nx, by simp, by simp, Heap.new_same (H.put i none) _⟩, by simp, fun j hj hn => ?_⟩
    · simp [appK, isSliceD, he, onto, hb, h3]
    · have hji : j ≠ i := fun q => hn e 0 l.length (by rw [q])
      refine ⟨by rw [Heap.new_ne _ _ (by simp; omega), Heap.put_ne _ _ hji], fun e o n q => ?_⟩
      cases q; omega
theorem own_new {H : Heap} {d : D} {e : TypeId} {l : List D} (h : Own H d e l) (o : PObj) : Own (H.new o) d e l := by
  obtain ⟨i, h1, h2, h3⟩ := h
  exact ⟨i, by rw [Heap.new_nx]; omega, h2, by rw [Heap.new_ne _ _ (by omega)]; exact h3⟩
theorem own_fz {P : Program} {H : Heap} {d : D} {e : TypeId} {l l' : List D} {n : Nat} (h : Own H d e l) (hl : l ≠ []) (hm : mapO (fz P n H) l = some l') : fz P (n + 1) H d = some (frD e l') := by
  obtain ⟨i, h1, rfl, h3⟩ := h
  exact Grow.fz (.of h1 h3 hl) hm
/-- An append onto a row of the call's own, and what follows. -/
theorem oK_own {H : Heap} {d : D} {e b : Nat} {l m : List D} {K : D × Heap → Prop} (h : Own H d e l) (hb : (l.length + m.length) * b ≤ 140737488355328)
    (hk : ∀ d' H', Own H' d' e (l ++ m) → H.nx ≤ H'.nx → (∀ j, j < H.nx → NotIt d j → H'.get j = H.get j ∧ NotIt d' j) → K (d', H')) : oK (appK e b d (some m) H) K := by
  obtain ⟨d', H', h1, h2, h3, h4⟩ := own_app m h hb
  rw [h1]
  exact hk d' H' h2 h3 h4
theorem own_none (H : Heap) (e : TypeId) : Own (H.new (.row e [])) (.row H.nx e 0 0) e [] := ⟨H.nx, by simp, rfl, Heap.new_same _ _⟩
end Go.Pv
