/- Functions without a text. -/
import Derived.Test.YtpedcchnhjffpaaGreatPvEval
import Derived.Laws.Externs
import Derived.Lib.Bytealg
namespace Go.Pv
open Go.RowKit

/-! ### Functions that have no text -/
inductive Pr where
  | indexByte | count | compare | same | bits | frombits
def prEntry : Pr → Array Value → Sem Value
  | .indexByte => Extern.BytealgIndexByte.indexByte
  | .count => Extern.BytealgCount.count
  | .compare => Extern.BytealgCompare.compare
  | .same => Extern.AbiNoEscape.same
  | .bits => Extern.MathFloatBits.float64bits
  | .frombits => Extern.MathFloatBits.float64frombits
def prOf : Pr → List D → Heap → Option (D × Heap)
  | .indexByte, [.val (.string s), .val (.int .u8 c)], H => some (.val (.int .i64 (Lib.indexByte s.data.toList c.toNat.toUInt8)), H)
  | .count, [.val (.string s), .val (.int .u8 c)], H => some (.val (.int .i64 (Lib.countByte s.data.toList c.toNat.toUInt8)), H)
  | .compare, [.val (.string s), .val (.string t)], H => some (.val (.int .i64 (Lib.compareBytes s.data.toList t.data.toList)), H)
  | .same, [d], H => some (d, H)
  | .bits, [.val (.float .f64 b)], H => some (.val (.int .u64 b), H)
  | .frombits, [.val (.int .u64 n)], H => some (.val (.float .f64 n.toNat), H)
  | _, _, _ => none
def primOf (tbl : List (Nat × Pr)) (f : FuncId) : Option (List D → Heap → Option (D × Heap)) :=
  match tbl with
  | [] => none
  | (g, p) :: rest => if f = g then some (prOf p) else primOf rest f
/-- What must be so of a function without a text. -/
def PrFact (P : Program) (x : Nat × Pr) : Prop := ∃ fn, P.funcs[x.1]? = some fn ∧ (fn.name == "runtime.NumGoroutine") = false ∧ fn.body.isNone = true ∧ Extern.findNext fn = none ∧ Extern.find fn = some (prEntry x.2)
variable {P : Program}
theorem repAll1 {Γ : Gh} {d1 : D} {args : List Value} (h : RepAll P Γ [d1] args) : ∃ v1, args = [v1] ∧ Rep P Γ d1 v1 := by
  match args, h with
  | [v], h => exact ⟨v, rfl, h.2 0 _ _ rfl rfl⟩
  | [], h => exact absurd h.1 (by simp)
  | _ :: _ :: _, h => exact absurd h.1 (by simp)
theorem repAll2 {Γ : Gh} {d1 d2 : D} {args : List Value} (h : RepAll P Γ [d1, d2] args) : ∃ v1 v2, args = [v1, v2] ∧ Rep P Γ d1 v1 ∧ Rep P Γ d2 v2 := by
  match args, h with
  | [v, u], h => exact ⟨v, u, rfl, h.2 0 _ _ rfl rfl, h.2 1 _ _ rfl rfl⟩
  | [], h => exact absurd h.1 (by simp)
  | [_], h => exact absurd h.1 (by simp)
  | _ :: _ :: _ :: _, h => exact absurd h.1 (by simp)
theorem prOf_sound {x : Nat × Pr} (hx : PrFact P x) {ds : List D} {H H' : Heap} {d : D} (h : prOf x.2 ds H = some (d, H')) : PCalls P x.1 ds H fun d' H'' => d' = d ∧ H'' = H' := by
  obtain ⟨fn, h1, h2, h3, h4, h5⟩ := hx
  intro base w0 Γ w args hR hA
  rw [run_callFunc_extern h1 h2 h3 h4 h5]
  have go : ∀ v, (prEntry x.2 args.toArray).run P w = .ok v w → Rep P Γ d v → H' = H → Lands P (((prEntry x.2 args.toArray).run P w).andThen fun v w' => .ok (.value v) w') fun v w' => ∃ Γ' H'' d', Γ.le Γ' ∧ Rel P base w0 Γ' H'' w' ∧ Rep P Γ' d' v ∧ d' = d ∧ H'' = H' := by
    intro v hv hr e
    subst e
    rw [hv]
    exact ⟨Γ, _, d, .refl Γ, hR, hr, rfl, rfl⟩
  unfold prOf at h
  split at h
  · rename_i s c e1
    cases h
    obtain ⟨v1, v2, rfl, r1, r2⟩ := repAll2 hA
    obtain rfl := rep_val r1
    obtain rfl := rep_val r2
    refine go _ ?_ (.val _) rfl
    rw [e1]
    exact Lib.run_indexByteString s c w
  · rename_i s c e1
    cases h
    obtain ⟨v1, v2, rfl, r1, r2⟩ := repAll2 hA
    obtain rfl := rep_val r1
    obtain rfl := rep_val r2
    refine go _ ?_ (.val _) rfl
    rw [e1]
    exact Lib.run_countString s c w
  · rename_i s t e1
    cases h
    obtain ⟨v1, v2, rfl, r1, r2⟩ := repAll2 hA
    obtain rfl := rep_val r1
    obtain rfl := rep_val r2
    refine go _ ?_ (.val _) rfl
    rw [e1]
    exact Lib.run_compareString s t w
  · rename_i d e1
    cases h
    obtain ⟨v1, rfl, r1⟩ := repAll1 hA
    refine go _ ?_ r1 rfl
    rw [e1]
    rfl
  · rename_i b e1
    cases h
    obtain ⟨v1, rfl, r1⟩ := repAll1 hA
    obtain rfl := rep_val r1
    refine go _ ?_ (.val _) rfl
    rw [e1]
    rfl
  · rename_i n e1
    cases h
    obtain ⟨v1, rfl, r1⟩ := repAll1 hA
    obtain rfl := rep_val r1
    refine go _ ?_ (.val _) rfl
    rw [e1]
    rfl
  · cases h
theorem primOf_sound : ∀ {tbl : List (Nat × Pr)}, (∀ x ∈ tbl, PrFact P x) → ∀ f p, primOf tbl f = some p → ∀ ds H d H', p ds H = some (d, H') → PCalls P f ds H fun d' H'' => d' = d ∧ H'' = H'
  | [], _, f, p, h, _, _, _, _, _ => by cases h
  | (g, q) :: rest, hx, f, p, h, ds, H, d, H', hp => by
    unfold primOf at h
    split at h
    · rename_i e
      subst e
      cases h
      exact prOf_sound (hx (f, q) (by simp)) hp
    · exact primOf_sound (fun x hx' => hx x (by simp [hx'])) f p h ds H d H' hp
/-- A run that is calculated. -/
theorem run_of {tbl : List (Nat × Pr)} (ht : ∀ x ∈ tbl, PrFact P x) (hm : P.follows .mixedOrders = true) {n f : Nat} {ds : List D} {H H' : Heap} {d : D} (h : evFn (primOf tbl) P n f ds H = some (d, H')) :
    PCalls P f ds H fun d' H'' => d' = d ∧ H'' = H' := evFn_sound (primOf_sound ht) hm n f ds H d H' h
end Go.Pv
