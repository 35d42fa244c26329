/- A part of the proof: functions of the program, walked, or what operations come to. -/
import Derived.Test.YtpedcchnhjffpaaGreatPvUse
import Derived.WideShapes
import Derived.ShutString
import Derived.Carry
namespace Go.Pv
open Go.RowKit Go.WideShapes
/-! ### The shape of a struct's cells -/
inductive LK where
  | int (k : IntKind) | str | bool | sl | no
def lkOf (P : Program) (t : TypeId) : LK := match P.underlying t with
  | some (.int k) => .int k
  | some .string => .str
  | some .bool => .bool
  | some (.slice _) => .sl
  | _ => .no
def shaped : LK → Value → Prop
  | .int k, v => ∃ n, v = .int k n
  | .str, v => ∃ s, v = .string s
  | .bool, v => ∃ b, v = .bool b
  | .sl, v => ∃ a l c, v = .slice a l c
  | .no, _ => True
theorem shaped_of {P : Program} {w : World} {r : Go.Reach} {base : Nat} {u : TypeId} {v : Value} (h : Cell.okWide P w r base u v) : shaped (lkOf P u) v := by
  unfold lkOf
  split
  · rename_i k e; exact okWide_int e (by unfold Value.okWide; rw [e]; exact h)
  · rename_i e; exact okWide_string e (by unfold Value.okWide; rw [e]; exact h)
  · rename_i e; exact okWide_bool e (by unfold Value.okWide; rw [e]; exact h)
  · rename_i k e; exact okWide_slice e (by unfold Value.okWide; rw [e]; exact h)
  · trivial
def Fits : List LK → List Value → Prop
  | [], vs => vs = []
  | k :: ks, vs => ∃ v r, vs = v :: r ∧ shaped k v ∧ Fits ks r
theorem fits_of : ∀ (ks : List LK) (vs : List Value), vs.length = ks.length → (∀ (i : Nat) v k, vs[i]? = some v → ks[i]? = some k → shaped k v) → Fits ks vs
  | [], [], _, _ => rfl
  | k :: ks, v :: vs, hl, h => ⟨v, vs, rfl, h 0 v k rfl rfl, fits_of ks vs (by simpa using hl) fun i v' k' hv hk => h (i + 1) v' k' hv hk⟩
  | [], _ :: _, hl, _ => by simp at hl
  | _ :: _, [], hl, _ => by simp at hl
def leavesOf (P : Program) (t : TypeId) : Option (List LK) := match P.underlying t, P.cellTypes P.depth t with
  | some (.struct _), some ts => if ts.length = P.cellsOf t then some (ts.map (lkOf P)) else none
  | _, _ => none
theorem agg_shape {P : Program} {w : World} {r : Go.Reach} {base : Nat} {t : TypeId} {v : Value} {ks : List LK} (h : Value.okWide P w r base t v) (hk : leavesOf P t = some ks) : ∃ cs : List Value, v = .agg cs.toArray ∧ Fits ks cs := by
  unfold leavesOf at hk
  split at hk
  · rename_i fs ts e1 e2
    split at hk
    · rename_i e3
      cases hk
      unfold Value.okWide at h
      rw [e1] at h
      obtain ⟨cs, rfl, hsz, ts', h1, _, h3⟩ := h
      rw [e2] at h1
      cases h1
      refine ⟨cs.toList, by simp, fits_of _ _ (by simp [hsz, e3]) fun i v k hv hk => ?_⟩
      have hi : i < cs.size := by
        have := (List.getElem?_eq_some_iff.1 hv).1
        simpa using this
      rw [Array.getElem?_toList] at hv
      obtain ⟨u, hu, ho⟩ := h3 i v hv
      rw [Nat.mod_eq_of_lt (by omega)] at hu
      rw [List.getElem?_map, hu] at hk
      cases hk
      exact shaped_of ho
    · cases hk
  · cases hk
theorem rep_agg {P : Program} {Γ : Gh} (vs : List Value) : Rep P Γ (.agg (vs.map D.val)) (.agg vs.toArray) := by
  refine .agg _ _ (by simp) fun i d v hd hv => ?_
  rw [List.getElem?_map, hv] at hd
  cases hd
  exact .val v
theorem RepAll.none {P : Program} {Γ : Gh} : RepAll P Γ [] [] := ⟨rfl, fun i d v hd hv => by cases hd⟩
theorem RepAll.one {P : Program} {Γ : Gh} {d : D} {v : Value} {ds : List D} {vs : List Value} (h : Rep P Γ d v) (hr : RepAll P Γ ds vs) : RepAll P Γ (d :: ds) (v :: vs) := by
  refine ⟨by simp [hr.1], fun i d' v' hd hv => ?_⟩
  match i with
  | 0 => cases hd; cases hv; exact h
  | i + 1 => exact hr.2 i d' v' hd hv
def isTrue (r : Option (D × Heap)) : Bool := match r with
  | some (.val (.bool b), _) => b
  | _ => false
theorem isTrue_ex {r : Option (D × Heap)} (h : isTrue r = true) : ∃ H', r = some (.val (.bool true), H') := by
  unfold isTrue at h
  split at h
  · subst h; exact ⟨_, rfl⟩
  · cases h
/-- A law whose run is calculated. -/
theorem law_of_run {P : Program} {tbl : List (Nat × Pr)} (ht : ∀ x ∈ tbl, PrFact P x) (hm : P.follows .mixedOrders = true) {n f : Nat} {ds : List D} {H : Heap} (h : isTrue (evFn (primOf tbl) P n f ds H) = true) : PCalls P f ds H fun d _ => d = .val (.bool true) := by
  obtain ⟨H', h⟩ := isTrue_ex h
  exact (run_of ht hm h).mono fun d _ x => x.1
end Go.Pv
