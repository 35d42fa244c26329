/- A part of the proof: functions of the program, walked, or what operations come to. -/
import Derived.Test.YtmaajijhfpdefaaPvS8b
import Derived.Test.YtmaajijhfpdefaaPvSym
namespace Go.Pv
open Go.Proofs
attribute [local simp] Try.underlying29 Try.underlying31 Try.underlying41 Try.underlying46 strD
@[simp] theorem sz29 : szOf Try.prog 29 = 1 := by kernel_rfl
def lbs (l : List ByteArray) : List D := l.map strD
theorem news_list (H : Heap) (l : List ByteArray) : news Try.prog H 9 29 (listD 9 l) = some (lbs l) := by
  unfold news listD
  rw [Try.underlying29]
  cases l with
  | nil => rfl
  | cons a l => simp [elems, lbs]
theorem not_ifc_list (l : List ByteArray) : isNilIfc (listD 9 l) = false := by unfold listD; split <;> rfl
noncomputable def ops10 : List Oper := match Try.f18.body with
  | some c => match (evRegs c) with
    | [l] => l
    | _ => []
  | none => []
where evRegs : Code → List (List Oper)
  | .region _ ops true => [ops.toList]
  | .seq a b => evRegs a ++ evRegs b
  | .cond _ a b => evRegs a ++ evRegs b
  | .block _ b => evRegs b
  | .loop b => evRegs b
  | _ => []
def ops10L : List Oper :=
  [{ dst := some 31, op := Go.Op.load 29 (Go.Operand.tmp 2), type := 29, pos := "schema.go:154", after := #[], guard := none }, { dst := some 32, op := Go.Op.fieldAddr 31 (Go.Operand.tmp 10) 4, type := 0, pos := "schema.go:154", after := #[], guard := none }, { dst := some 33, op := Go.Op.load 29 (Go.Operand.tmp 32), type := 29, pos := "schema.go:154", after := #[{ on := 1, ground := Go.Ground.data }], guard := none }, { dst := some 34, op := Go.Op.call { callee := Go.Callee.builtin Go.Builtin.append, args := #[Go.Operand.tmp 31, Go.Operand.tmp 33], argTypes := #[29, 29] }, type := 29, pos := "schema.go:154", after := #[{ on := 0, ground := Go.Ground.data }, { on := 2, ground := Go.Ground.data }], guard := none }, { dst := some 35, op := Go.Op.move (Go.Operand.tmp 3), type := 29, pos := "schema.go:154", after := #[], guard := none }, { dst := some 36, op := Go.Op.fieldAddr 31 (Go.Operand.tmp 10) 5, type := 0, pos := "schema.go:154", after := #[], guard := none }, { dst := some 37, op := Go.Op.load 29 (Go.Operand.tmp 36), type := 29, pos := "schema.go:154", after := #[{ on := 5, ground := Go.Ground.data }], guard := none }, { dst := some 38, op := Go.Op.call { callee := Go.Callee.builtin Go.Builtin.append, args := #[Go.Operand.tmp 35, Go.Operand.tmp 37], argTypes := #[29, 29] }, type := 29, pos := "schema.go:154", after := #[{ on := 4, ground := Go.Ground.data }, { on := 6, ground := Go.Ground.data }, { on := 3, ground := Go.Ground.chain }], guard := none }, { dst := none, op := Go.Op.store 29 (Go.Operand.tmp 2) (Go.Operand.tmp 34), type := 0, pos := "schema.go:154", after := #[{ on := 3, ground := Go.Ground.data }, { on := 7, ground := Go.Ground.chain }, { on := 0, ground := Go.Ground.phase }, { on := 1, ground := Go.Ground.phase }, { on := 2, ground := Go.Ground.phase }, { on := 3, ground := Go.Ground.phase }, { on := 4, ground := Go.Ground.textOnly Go.Departure.lateStores }, { on := 5, ground := Go.Ground.textOnly Go.Departure.lateStores }, { on := 6, ground := Go.Ground.textOnly Go.Departure.lateStores }, { on := 7, ground := Go.Ground.textOnly Go.Departure.lateStoresUnsure }], guard := none }, { dst := some 3, op := Go.Op.assign (Go.Operand.tmp 38), type := 29, pos := "schema.go:154", after := #[{ on := 7, ground := Go.Ground.data }, { on := 8, ground := Go.Ground.chain }, { on := 0, ground := Go.Ground.phase }, { on := 1, ground := Go.Ground.phase }, { on := 2, ground := Go.Ground.phase }, { on := 3, ground := Go.Ground.phase }, { on := 4, ground := Go.Ground.phase }, { on := 5, ground := Go.Ground.phase }, { on := 6, ground := Go.Ground.phase }, { on := 7, ground := Go.Ground.phase }, { on := 8, ground := Go.Ground.phase }], guard := none }]
theorem ops10_eq : ops10 = ops10L := by kernel_rfl
theorem ok10 : (backOk ops10 && traceOk Try.prog ops10 (masks ops10 [])) = true := by kernel_rfl
theorem reads10 : openReads Try.prog ops10 = [(6, 3)] := by kernel_rfl
@[simp] theorem next_at (E : Env) (H H' : Heap) (df : List (FuncId × List D)) (t : Nat) (d : D) : PSt.next ⟨E, H, df⟩ (some t) d H' = ⟨E.set t d, H', df⟩ := rfl
@[simp] theorem next_no (E : Env) (H H' : Heap) (df : List (FuncId × List D)) (d : D) : PSt.next ⟨E, H, df⟩ none d H' = ⟨E, H', df⟩ := rfl
set_option maxHeartbeats 4000000 in
set_option maxRecDepth 100000 in
theorem region10 {E : Env} {H H1 H2 : Heap} {b x : Nat} {m y r1 r2 : D} {Q : Exit → PSt → Prop} (hn : E.n = 49) (e2 : E.get 2 = .ptr 0 0) (e3 : E.get 3 = y) (e10 : E.get 10 = .ptr b 0) (h0 : H.get 0 = some (.cells [m])) (hb : H.get b = some (.cells (cellsD (clD x))))
    (a1 : appK 9 16 m (some (lbs (mu x))) H = some (r1, H1)) (a2 : appK 9 16 y (some (lbs (ma x))) H1 = some (r2, H2)) (hb1 : H1.get b = some (.cells (cellsD (clD x)))) (h02 : H2.get 0 = some (.cells [m])) (o1 : okPart r1 = true) (c1 : cellsD r1 = [r1])
    (hQ : ∀ E', E'.n = 49 → (∀ t, t < 31 → t ≠ 3 → E'.get t = E.get t) → E'.get 3 = r2 → Q .normal ⟨E', H2.put 0 (some (.cells [r1])), []⟩) : pwp Try.prog 49 (.region 10 ops10L.toArray true) Q ⟨E, H, []⟩ := by
  refine pwp_region_sym mixedO (pairs := [(6, 3)]) (ops10_eq ▸ ok10) (tr := ?tr) ?h1 (ops10_eq ▸ reads10) ?h2 ?h3
  case h1 =>
    simp [ops10L, evTrace, evStep, wanted, evOp, eStep, eOp, isCall, hn, e2, e3, e10, h0, hb, a1, a2, hb1, h02, o1, c1, ↓news_list]
    exact rfl
  case h2 =>
    intro q hq o ho
    simp only [List.mem_singleton] at hq
    subst hq
    simp [ops10L] at ho
    subst ho
    simp [valueAt, wanted, eOp, hn, hb, hb1]
  case h3 =>
    refine hQ _ (by simp [hn]) (fun t h1 h2 => ?_) (by simp [hn])
    simp [ops10L]
    have n1 : t ≠ 31 := by omega
    have n2 : t ≠ 32 := by omega
    have n3 : t ≠ 33 := by omega
    have n4 : t ≠ 34 := by omega
    have n5 : t ≠ 35 := by omega
    have n6 : t ≠ 36 := by omega
    have n7 : t ≠ 37 := by omega
    have n8 : t ≠ 38 := by omega
    simp [*]
end Go.Pv
