/- A part of the proof: functions of the program, walked, or what operations come to. -/
import Derived.Test.YtlfafoociddhgaaPvGen
import Derived.Test.YtlfafoociddhgaaPvTameA
import Derived.Test.YtlfafoociddhgaaProg
import Derived.KernelRfl
namespace Go.Pv
open Go.Proofs
theorem mixedO : Try.prog.follows .mixedOrders = true := by kernel_rfl
attribute [local simp] Try.underlying3 Try.underlying4 Try.underlying9 Try.underlying23 Try.underlying25 Try.underlying33 Try.underlying62 Heap.new_get Heap.put_get strD fillD
@[simp] theorem sz3 : szOf Try.prog 3 = 1 := by kernel_rfl
@[simp] theorem sz9 : szOf Try.prog 9 = 1 := by kernel_rfl
@[simp] theorem sz23 : szOf Try.prog 23 = 1 := by kernel_rfl
@[simp] theorem sz25 : szOf Try.prog 25 = 1 := by kernel_rfl
@[simp] theorem sz33 : szOf Try.prog 33 = 4 := by kernel_rfl
@[simp] theorem sz62 : szOf Try.prog 62 = 9 := by kernel_rfl
@[simp] theorem places62 : placesOf Try.prog 62 = some [(0, 1), (1, 4), (5, 1), (6, 1), (7, 1), (8, 1)] := by kernel_rfl
@[simp] theorem zd62 : zeroD Try.prog 62 = some [.val (.string ⟨#[]⟩), .val (.string ⟨#[]⟩), .val (.string ⟨#[]⟩), .val (.int .i64 0), .slice 1 0 [], .val (.int .i64 0), .val (.int .i64 0), .val (.pointer none), .val (.pointer none)] := by kernel_rfl
/-! ### Trees -/
inductive T where
  | nil
  | node (p k : ByteArray) (lv sz : Int) (l r : T)
def entC (k : ByteArray) : List D := [strD k, .val (.string ⟨#[]⟩), .val (.int .i64 0), .slice 1 0 []]
def treeD : T → D
  | .nil => .val (.pointer none)
  | .node p k lv sz l r => .obj [strD p, strD k, .val (.string ⟨#[]⟩), .val (.int .i64 0), .slice 1 0 [], .val (.int .i64 lv), .val (.int .i64 sz), treeD l, treeD r] 0
def T.dep : T → Nat
  | .nil => 0
  | .node _ _ _ _ l r => 1 + max l.dep r.dep
def T.lv : T → Int
  | .nil => 0
  | .node _ _ lv _ _ _ => lv
def T.sz : T → Int
  | .nil => 0
  | .node _ _ _ sz _ _ => sz
@[simp] theorem treeD_nil : treeD .nil = .val (.pointer none) := rfl
@[simp] theorem treeD_node (p k : ByteArray) (lv sz : Int) (l r : T) : treeD (.node p k lv sz l r) = .obj [strD p, strD k, .val (.string ⟨#[]⟩), .val (.int .i64 0), .slice 1 0 [], .val (.int .i64 lv), .val (.int .i64 sz), treeD l, treeD r] 0 := plain _
@[simp] theorem one_tree (t : T) : oneD (treeD t) = true := by cases t <;> rfl
@[simp] theorem ok_tree (t : T) : okPart (treeD t) = true := by cases t <;> rfl
@[simp] theorem cells_tree (t : T) : cellsD (treeD t) = [treeD t] := by cases t <;> rfl
theorem pure_tree : ∀ t, Pure (treeD t)
  | .nil => .val _
  | .node p k lv sz l r => .obj _ _ fun d hd => by
    simp only [List.mem_cons, List.mem_nil_iff, or_false] at hd
    rcases hd with rfl | rfl | rfl | rfl | rfl | rfl | rfl | rfl | rfl
    · exact .val _
    · exact .val _
    · exact .val _
    · exact .val _
    · exact .slice _ _ _ fun d hd => by cases hd
    · exact .val _
    · exact .val _
    · exact pure_tree l
    · exact pure_tree r
theorem fz_tree {P : Program} (H : Heap) : ∀ (t : T) (n : Nat), t.dep + 2 ≤ n → fz P n H (treeD t) = some (treeD t)
  | .nil, n, h => by
    obtain ⟨m, rfl⟩ : ∃ m, n = m + 1 := ⟨n - 1, by omega⟩
    rfl
  | .node p k lv sz l r, n, h => by
    simp only [T.dep] at h
    obtain ⟨m, rfl⟩ : ∃ m, n = m + 2 := ⟨n - 2, by omega⟩
    have h1 := fz_tree (P := P) H l (m + 1) (by omega)
    have h2 := fz_tree (P := P) H r (m + 1) (by omega)
    rw [treeD_node, fz]
    simp only [mapO, h1, h2]
    rfl
@[simp] theorem T.lv_nil : T.nil.lv = 0 := rfl
@[simp] theorem T.sz_nil : T.nil.sz = 0 := rfl
@[simp] theorem T.lv_node (p k : ByteArray) (lv sz : Int) (l r : T) : (T.node p k lv sz l r).lv = lv := rfl
@[simp] theorem T.sz_node (p k : ByteArray) (lv sz : Int) (l r : T) : (T.node p k lv sz l r).sz = sz := rfl
theorem fz_node {P : Program} {H : Heap} {i n : Nat} {p k : ByteArray} {lv sz : Int} {l r : T} (hi : H.get i = some (.cells [.val (.string p), .val (.string k), .val (.string ⟨#[]⟩), .val (.int .i64 0), .slice 1 0 [], .val (.int .i64 lv), .val (.int .i64 sz), treeD l, treeD r])) (hn : max l.dep r.dep + 4 ≤ n) :
    fz P n H (.ptr i 0) = some (treeD (.node p k lv sz l r)) := by
  obtain ⟨m, rfl⟩ : ∃ m, n = m + 2 := ⟨n - 2, by omega⟩
  have h1 := fz_tree (P := P) H l (m + 1) (by omega)
  have h2 := fz_tree (P := P) H r (m + 1) (by omega)
  rw [treeD_node, fz]
  simp only [hi, mapO, h1, h2]
  rfl
theorem isNil_tree (t : T) : isNilP (treeD t) = some (match t with | .nil => true | _ => false) := by cases t <;> rfl
@[simp] theorem res20 : Try.f20.results.toList = [.tmp 2] := rfl
@[simp] theorem res48 : Try.f48.results.toList = [.tmp 2] := rfl
@[simp] theorem res32 : Try.f32.results.toList = [.tmp 8] := rfl
set_option maxRecDepth 100000 in
theorem sizeOf_spec (t : T) (H : Heap) : PCalls Try.prog 20 [treeD t] H fun d H' => d = .val (.int .i64 t.sz) ∧ H' = H := by
  refine PCalls.of_pwp Try.call20 Try.func20 rfl (by simp [Try.ntmps20]) ?_
  rw [Try.ntmps20]
  rcases t with _ | ⟨p, k, lv, sz, l, r⟩
  · simp only [treeD_nil]
    repeat (first | with_reducible refine seq_k fun K hK => ?_ | (with_reducible refine region_k fun K hK => ?_; simp [*]) | (with_reducible refine region_draw_k mixedO (by decide +kernel) fun K hK => ?_; simp [*]) | (with_reducible refine region_tame_a mixedO (by decide +kernel) fun K hK => ?_; simp [*, Low, isLoadB, isTameB, List.range_succ, List.range']) | with_reducible refine pwp_block ?_ | with_reducible refine pwp_skip ?_ | with_reducible refine pwp_ret ?_ | with_reducible refine pwp_exit ?_ | (with_reducible refine cond_t ?_ ?_; (focus (simp [*]; done))) | (with_reducible refine cond_f ?_ ?_; (focus (simp [*]; done))) | with_reducible refine then_n ?_ | with_reducible refine then_r ?_ | with_reducible refine then_e ?_ | with_reducible refine then_g ?_ | with_reducible refine inB_n ?_ | with_reducible refine inB_r ?_ | with_reducible refine inB_e ?_ | with_reducible refine inB_o rfl ?_ | with_reducible refine inB_g ?_ | with_reducible refine Leads.go (by assumption) ?_)
    simp [*]
  · simp only [treeD_node]
    repeat (first | with_reducible refine seq_k fun K hK => ?_ | (with_reducible refine region_k fun K hK => ?_; simp [*]) | (with_reducible refine region_draw_k mixedO (by decide +kernel) fun K hK => ?_; simp [*]) | (with_reducible refine region_tame_a mixedO (by decide +kernel) fun K hK => ?_; simp [*, Low, isLoadB, isTameB, List.range_succ, List.range']) | with_reducible refine pwp_block ?_ | with_reducible refine pwp_skip ?_ | with_reducible refine pwp_ret ?_ | with_reducible refine pwp_exit ?_ | (with_reducible refine cond_t ?_ ?_; (focus (simp [*]; done))) | (with_reducible refine cond_f ?_ ?_; (focus (simp [*]; done))) | with_reducible refine then_n ?_ | with_reducible refine then_r ?_ | with_reducible refine then_e ?_ | with_reducible refine then_g ?_ | with_reducible refine inB_n ?_ | with_reducible refine inB_r ?_ | with_reducible refine inB_e ?_ | with_reducible refine inB_o rfl ?_ | with_reducible refine inB_g ?_ | with_reducible refine Leads.go (by assumption) ?_)
    simp [*]
set_option maxRecDepth 100000 in
theorem levelOf_spec (t : T) (H : Heap) : PCalls Try.prog 48 [treeD t] H fun d H' => d = .val (.int .i64 t.lv) ∧ H' = H := by
  refine PCalls.of_pwp Try.call48 Try.func48 rfl (by simp [Try.ntmps48]) ?_
  rw [Try.ntmps48]
  rcases t with _ | ⟨p, k, lv, sz, l, r⟩
  · simp only [treeD_nil]
    repeat (first | with_reducible refine seq_k fun K hK => ?_ | (with_reducible refine region_k fun K hK => ?_; simp [*]) | (with_reducible refine region_draw_k mixedO (by decide +kernel) fun K hK => ?_; simp [*]) | (with_reducible refine region_tame_a mixedO (by decide +kernel) fun K hK => ?_; simp [*, Low, isLoadB, isTameB, List.range_succ, List.range']) | with_reducible refine pwp_block ?_ | with_reducible refine pwp_skip ?_ | with_reducible refine pwp_ret ?_ | with_reducible refine pwp_exit ?_ | (with_reducible refine cond_t ?_ ?_; (focus (simp [*]; done))) | (with_reducible refine cond_f ?_ ?_; (focus (simp [*]; done))) | with_reducible refine then_n ?_ | with_reducible refine then_r ?_ | with_reducible refine then_e ?_ | with_reducible refine then_g ?_ | with_reducible refine inB_n ?_ | with_reducible refine inB_r ?_ | with_reducible refine inB_e ?_ | with_reducible refine inB_o rfl ?_ | with_reducible refine inB_g ?_ | with_reducible refine Leads.go (by assumption) ?_)
    simp [*]
  · simp only [treeD_node]
    repeat (first | with_reducible refine seq_k fun K hK => ?_ | (with_reducible refine region_k fun K hK => ?_; simp [*]) | (with_reducible refine region_draw_k mixedO (by decide +kernel) fun K hK => ?_; simp [*]) | (with_reducible refine region_tame_a mixedO (by decide +kernel) fun K hK => ?_; simp [*, Low, isLoadB, isTameB, List.range_succ, List.range']) | with_reducible refine pwp_block ?_ | with_reducible refine pwp_skip ?_ | with_reducible refine pwp_ret ?_ | with_reducible refine pwp_exit ?_ | (with_reducible refine cond_t ?_ ?_; (focus (simp [*]; done))) | (with_reducible refine cond_f ?_ ?_; (focus (simp [*]; done))) | with_reducible refine then_n ?_ | with_reducible refine then_r ?_ | with_reducible refine then_e ?_ | with_reducible refine then_g ?_ | with_reducible refine inB_n ?_ | with_reducible refine inB_r ?_ | with_reducible refine inB_e ?_ | with_reducible refine inB_o rfl ?_ | with_reducible refine inB_g ?_ | with_reducible refine Leads.go (by assumption) ?_)
    simp [*]
/-- A node of a level, with other trees. -/
def made (t : T) (lv : Int) (l r : T) : T := match t with
  | .nil => .nil
  | .node p k _ _ _ _ => .node p k lv (IntKind.i64.wrap (IntKind.i64.wrap (l.sz + 1) + r.sz)) l r
set_option maxHeartbeats 4000000 in
set_option maxRecDepth 100000 in
theorem made_local (p k : ByteArray) (lv0 sz0 : Int) (l0 r0 : T) (lv : Int) (l r : T) : PCalls Try.prog 32 [treeD (.node p k lv0 sz0 l0 r0), .val (.int .i64 lv), treeD l, treeD r] (noHeap noG) fun d H' => ∃ x, fz Try.prog (max l.dep r.dep + 4) H' d = some x ∧ x = treeD (made (.node p k lv0 sz0 l0 r0) lv l r) := by
  refine PCalls.of_pwp Try.call32 Try.func32 rfl (by simp [Try.ntmps32]) ?_
  rw [Try.ntmps32]
  simp only [treeD_node]
  repeat (first | with_reducible refine seq_k fun K hK => ?_ | (with_reducible refine region_k fun K hK => ?_; simp [*]) | (with_reducible refine region_draw_k mixedO (by decide +kernel) fun K hK => ?_; simp [*]) | (with_reducible refine region_tame_a mixedO (by decide +kernel) fun K hK => ?_; simp [*, Low, isLoadB, isTameB, List.range_succ, List.range']) | with_reducible refine pwp_block ?_ | with_reducible refine pwp_skip ?_ | with_reducible refine pwp_ret ?_ | with_reducible refine pwp_exit ?_ | (with_reducible refine cond_t ?_ ?_; (focus (simp [*]; done))) | (with_reducible refine cond_f ?_ ?_; (focus (simp [*]; done))) | with_reducible refine then_n ?_ | with_reducible refine then_r ?_ | with_reducible refine then_e ?_ | with_reducible refine then_g ?_ | with_reducible refine inB_n ?_ | with_reducible refine inB_r ?_ | with_reducible refine inB_e ?_ | with_reducible refine inB_o rfl ?_ | with_reducible refine inB_g ?_ | with_reducible refine Leads.go (by assumption) ?_)
  refine PCalls.mono (sizeOf_spec l _) ?_
  intro d3 H3 hd3
  rw [hd3.1, hd3.2]
  clear hd3
  simp [*]
  refine PCalls.mono (sizeOf_spec r _) ?_
  intro d3 H3 hd3
  rw [hd3.1, hd3.2]
  clear hd3
  simp [*]
  repeat (first | with_reducible refine seq_k fun K hK => ?_ | (with_reducible refine region_k fun K hK => ?_; simp [*]) | (with_reducible refine region_draw_k mixedO (by decide +kernel) fun K hK => ?_; simp [*]) | (with_reducible refine region_tame_a mixedO (by decide +kernel) fun K hK => ?_; simp [*, Low, isLoadB, isTameB, List.range_succ, List.range']) | with_reducible refine pwp_block ?_ | with_reducible refine pwp_skip ?_ | with_reducible refine pwp_ret ?_ | with_reducible refine pwp_exit ?_ | (with_reducible refine cond_t ?_ ?_; (focus (simp [*]; done))) | (with_reducible refine cond_f ?_ ?_; (focus (simp [*]; done))) | with_reducible refine then_n ?_ | with_reducible refine then_r ?_ | with_reducible refine then_e ?_ | with_reducible refine then_g ?_ | with_reducible refine inB_n ?_ | with_reducible refine inB_r ?_ | with_reducible refine inB_e ?_ | with_reducible refine inB_o rfl ?_ | with_reducible refine inB_g ?_ | with_reducible refine Leads.go (by assumption) ?_)
  simp [*]
  exact fz_node (by simp) (Nat.le_refl _)
theorem made_spec (t : T) (ht : t ≠ .nil) (lv : Int) (l r : T) (H : Heap) : PCalls Try.prog 32 [treeD t, .val (.int .i64 lv), treeD l, treeD r] H fun d H' => d = treeD (made t lv l r) ∧ H' = H := by
  rcases t with _ | ⟨p, k, lv0, sz0, l0, r0⟩
  · exact absurd rfl ht
  · refine PCalls.liftG (PCalls.mono (PCalls.frozenR (made_local p k lv0 sz0 l0 r0 lv l r)) fun d _ h => h) (fun d hd => ?_) (pure_tree _) H
    simp only [List.mem_cons, List.mem_nil_iff, or_false] at hd
    rcases hd with rfl | rfl | rfl | rfl
    · exact pure_tree _
    · exact .val _
    · exact pure_tree _
    · exact pure_tree _
/-! ### skew, split -/
@[simp] theorem res34 : Try.f34.results.toList = [.tmp 2] := rfl
@[simp] theorem res33 : Try.f33.results.toList = [.tmp 2] := rfl
def skewT : T → T
  | .nil => .nil
  | .node p k lv sz .nil r => .node p k lv sz .nil r
  | .node p k lv sz (.node p2 k2 lv2 sz2 l2 r2) r => if lv2 = lv then made (.node p2 k2 lv2 sz2 l2 r2) lv2 l2 (made (.node p k lv sz (.node p2 k2 lv2 sz2 l2 r2) r) lv r2 r) else .node p k lv sz (.node p2 k2 lv2 sz2 l2 r2) r
def splitT : T → T
  | .nil => .nil
  | .node p k lv sz l .nil => .node p k lv sz l .nil
  | .node p k lv sz l (.node p2 k2 lv2 sz2 l2 r2) => if r2.lv = lv then made (.node p2 k2 lv2 sz2 l2 r2) (IntKind.i64.wrap (lv2 + 1)) (made (.node p k lv sz l (.node p2 k2 lv2 sz2 l2 r2)) lv l l2) r2 else .node p k lv sz l (.node p2 k2 lv2 sz2 l2 r2)
set_option maxHeartbeats 4000000 in
set_option maxRecDepth 100000 in
theorem skew_spec (t : T) (h0 : ∀ p k lv sz l r, t = .node p k lv sz l r → l = .nil → lv ≠ 0) (H : Heap) : PCalls Try.prog 34 [treeD t] H fun d H' => d = treeD (skewT t) ∧ H' = H := by
  refine PCalls.of_pwp Try.call34 Try.func34 rfl (by simp [Try.ntmps34]) ?_
  rw [Try.ntmps34]
  rcases t with _ | ⟨p, k, lv, sz, l, r⟩
  · simp only [treeD_nil]
    repeat (first | with_reducible refine seq_k fun K hK => ?_ | (with_reducible refine region_k fun K hK => ?_; simp [*]) | (with_reducible refine region_draw_k mixedO (by decide +kernel) fun K hK => ?_; simp [*]) | (with_reducible refine region_tame_a mixedO (by decide +kernel) fun K hK => ?_; simp [*, Low, isLoadB, isTameB, List.range_succ, List.range']) | with_reducible refine pwp_block ?_ | with_reducible refine pwp_skip ?_ | with_reducible refine pwp_ret ?_ | with_reducible refine pwp_exit ?_ | (with_reducible refine cond_t ?_ ?_; (focus (simp [*]; done))) | (with_reducible refine cond_f ?_ ?_; (focus (simp [*]; done))) | with_reducible refine then_n ?_ | with_reducible refine then_r ?_ | with_reducible refine then_e ?_ | with_reducible refine then_g ?_ | with_reducible refine inB_n ?_ | with_reducible refine inB_r ?_ | with_reducible refine inB_e ?_ | with_reducible refine inB_o rfl ?_ | with_reducible refine inB_g ?_ | with_reducible refine Leads.go (by assumption) ?_)
    simp [*]
    rfl
  · have hm1 := levelOf_spec l
    by_cases he : l.lv = lv
    · rcases l with _ | ⟨p2, k2, lv2, sz2, l2, r2⟩
      · exact absurd he.symm (h0 _ _ _ _ _ _ rfl rfl)
      · have hm2 := made_spec (.node p k lv sz (.node p2 k2 lv2 sz2 l2 r2) r) (by intro q; cases q) lv r2 r
        have hm3 := made_spec (.node p2 k2 lv2 sz2 l2 r2) (by intro q; cases q) lv2 l2 (made (.node p k lv sz (.node p2 k2 lv2 sz2 l2 r2) r) lv r2 r)
        have hsk : skewT (.node p k lv sz (.node p2 k2 lv2 sz2 l2 r2) r) = made (.node p2 k2 lv2 sz2 l2 r2) lv2 l2 (made (.node p k lv sz (.node p2 k2 lv2 sz2 l2 r2) r) lv r2 r) := by rw [skewT, if_pos (by simpa using he)]
        rw [T.lv_node] at he
        rw [hsk]
        clear h0 hsk
        subst he
        simp only [treeD_node, T.lv_node, strD] at hm1 hm2 hm3 ⊢
        generalize made (.node p k lv2 sz (.node p2 k2 lv2 sz2 l2 r2) r) lv2 r2 r = M1 at *
        generalize made (.node p2 k2 lv2 sz2 l2 r2) lv2 l2 M1 = M2 at *
        repeat (first | with_reducible refine seq_k fun K hK => ?_ | (with_reducible refine region_k fun K hK => ?_; simp [*]) | (with_reducible refine region_draw_k mixedO (by decide +kernel) fun K hK => ?_; simp [*]) | (with_reducible refine region_tame_a mixedO (by decide +kernel) fun K hK => ?_; simp [*, Low, isLoadB, isTameB, List.range_succ, List.range']) | with_reducible refine pwp_block ?_ | with_reducible refine pwp_skip ?_ | with_reducible refine pwp_ret ?_ | with_reducible refine pwp_exit ?_ | (with_reducible refine cond_t ?_ ?_; (focus (simp [*]; done))) | (with_reducible refine cond_f ?_ ?_; (focus (simp [*]; done))) | with_reducible refine then_n ?_ | with_reducible refine then_r ?_ | with_reducible refine then_e ?_ | with_reducible refine then_g ?_ | with_reducible refine inB_n ?_ | with_reducible refine inB_r ?_ | with_reducible refine inB_e ?_ | with_reducible refine inB_o rfl ?_ | with_reducible refine inB_g ?_ | with_reducible refine Leads.go (by assumption) ?_)
        refine PCalls.mono (hm1 _) ?_
        intro d3 H3 hd3
        rw [hd3.1, hd3.2]
        clear hd3
        try simp [*]
        repeat (first | with_reducible refine seq_k fun K hK => ?_ | (with_reducible refine region_k fun K hK => ?_; simp [*]) | (with_reducible refine region_draw_k mixedO (by decide +kernel) fun K hK => ?_; simp [*]) | (with_reducible refine region_tame_a mixedO (by decide +kernel) fun K hK => ?_; simp [*, Low, isLoadB, isTameB, List.range_succ, List.range']) | with_reducible refine pwp_block ?_ | with_reducible refine pwp_skip ?_ | with_reducible refine pwp_ret ?_ | with_reducible refine pwp_exit ?_ | (with_reducible refine cond_t ?_ ?_; (focus (simp [*]; done))) | (with_reducible refine cond_f ?_ ?_; (focus (simp [*]; done))) | with_reducible refine then_n ?_ | with_reducible refine then_r ?_ | with_reducible refine then_e ?_ | with_reducible refine then_g ?_ | with_reducible refine inB_n ?_ | with_reducible refine inB_r ?_ | with_reducible refine inB_e ?_ | with_reducible refine inB_o rfl ?_ | with_reducible refine inB_g ?_ | with_reducible refine Leads.go (by assumption) ?_)
        refine PCalls.mono (hm2 _) ?_
        intro d3 H3 hd3
        rw [hd3.1, hd3.2]
        clear hd3
        try simp [*]
        refine PCalls.mono (hm3 _) ?_
        intro d3 H3 hd3
        rw [hd3.1, hd3.2]
        clear hd3
        try simp [*]
        repeat (first | with_reducible refine seq_k fun K hK => ?_ | (with_reducible refine region_k fun K hK => ?_; simp [*]) | (with_reducible refine region_draw_k mixedO (by decide +kernel) fun K hK => ?_; simp [*]) | (with_reducible refine region_tame_a mixedO (by decide +kernel) fun K hK => ?_; simp [*, Low, isLoadB, isTameB, List.range_succ, List.range']) | with_reducible refine pwp_block ?_ | with_reducible refine pwp_skip ?_ | with_reducible refine pwp_ret ?_ | with_reducible refine pwp_exit ?_ | (with_reducible refine cond_t ?_ ?_; (focus (simp [*]; done))) | (with_reducible refine cond_f ?_ ?_; (focus (simp [*]; done))) | with_reducible refine then_n ?_ | with_reducible refine then_r ?_ | with_reducible refine then_e ?_ | with_reducible refine then_g ?_ | with_reducible refine inB_n ?_ | with_reducible refine inB_r ?_ | with_reducible refine inB_e ?_ | with_reducible refine inB_o rfl ?_ | with_reducible refine inB_g ?_ | with_reducible refine Leads.go (by assumption) ?_)
        simp [*]
    · have hsk : skewT (.node p k lv sz l r) = .node p k lv sz l r := by
        rcases l with _ | ⟨p2, k2, lv2, sz2, l2, r2⟩
        · rfl
        · rw [skewT, if_neg (by simpa using he)]
      rw [hsk]
      clear h0 hsk
      simp only [treeD_node, strD] at hm1 ⊢
      repeat (first | with_reducible refine seq_k fun K hK => ?_ | (with_reducible refine region_k fun K hK => ?_; simp [*]) | (with_reducible refine region_draw_k mixedO (by decide +kernel) fun K hK => ?_; simp [*]) | (with_reducible refine region_tame_a mixedO (by decide +kernel) fun K hK => ?_; simp [*, Low, isLoadB, isTameB, List.range_succ, List.range']) | with_reducible refine pwp_block ?_ | with_reducible refine pwp_skip ?_ | with_reducible refine pwp_ret ?_ | with_reducible refine pwp_exit ?_ | (with_reducible refine cond_t ?_ ?_; (focus (simp [*]; done))) | (with_reducible refine cond_f ?_ ?_; (focus (simp [*]; done))) | with_reducible refine then_n ?_ | with_reducible refine then_r ?_ | with_reducible refine then_e ?_ | with_reducible refine then_g ?_ | with_reducible refine inB_n ?_ | with_reducible refine inB_r ?_ | with_reducible refine inB_e ?_ | with_reducible refine inB_o rfl ?_ | with_reducible refine inB_g ?_ | with_reducible refine Leads.go (by assumption) ?_)
      refine PCalls.mono (hm1 _) ?_
      intro d3 H3 hd3
      rw [hd3.1, hd3.2]
      clear hd3
      try simp [*]
      repeat (first | with_reducible refine seq_k fun K hK => ?_ | (with_reducible refine region_k fun K hK => ?_; simp [*]) | (with_reducible refine region_draw_k mixedO (by decide +kernel) fun K hK => ?_; simp [*]) | (with_reducible refine region_tame_a mixedO (by decide +kernel) fun K hK => ?_; simp [*, Low, isLoadB, isTameB, List.range_succ, List.range']) | with_reducible refine pwp_block ?_ | with_reducible refine pwp_skip ?_ | with_reducible refine pwp_ret ?_ | with_reducible refine pwp_exit ?_ | (with_reducible refine cond_t ?_ ?_; (focus (simp [*]; done))) | (with_reducible refine cond_f ?_ ?_; (focus (simp [*]; done))) | with_reducible refine then_n ?_ | with_reducible refine then_r ?_ | with_reducible refine then_e ?_ | with_reducible refine then_g ?_ | with_reducible refine inB_n ?_ | with_reducible refine inB_r ?_ | with_reducible refine inB_e ?_ | with_reducible refine inB_o rfl ?_ | with_reducible refine inB_g ?_ | with_reducible refine Leads.go (by assumption) ?_)
      simp [*]
set_option maxHeartbeats 4000000 in
set_option maxRecDepth 100000 in
theorem split_spec (t : T) (H : Heap) : PCalls Try.prog 33 [treeD t] H fun d H' => d = treeD (splitT t) ∧ H' = H := by
  refine PCalls.of_pwp Try.call33 Try.func33 rfl (by simp [Try.ntmps33]) ?_
  rw [Try.ntmps33]
  rcases t with _ | ⟨p, k, lv, sz, l, r⟩
  · simp only [treeD_nil]
    repeat (first | with_reducible refine seq_k fun K hK => ?_ | (with_reducible refine region_k fun K hK => ?_; simp [*]) | (with_reducible refine region_draw_k mixedO (by decide +kernel) fun K hK => ?_; simp [*]) | (with_reducible refine region_tame_a mixedO (by decide +kernel) fun K hK => ?_; simp [*, Low, isLoadB, isTameB, List.range_succ, List.range']) | with_reducible refine pwp_block ?_ | with_reducible refine pwp_skip ?_ | with_reducible refine pwp_ret ?_ | with_reducible refine pwp_exit ?_ | (with_reducible refine cond_t ?_ ?_; (focus (simp [*]; done))) | (with_reducible refine cond_f ?_ ?_; (focus (simp [*]; done))) | with_reducible refine then_n ?_ | with_reducible refine then_r ?_ | with_reducible refine then_e ?_ | with_reducible refine then_g ?_ | with_reducible refine inB_n ?_ | with_reducible refine inB_r ?_ | with_reducible refine inB_e ?_ | with_reducible refine inB_o rfl ?_ | with_reducible refine inB_g ?_ | with_reducible refine Leads.go (by assumption) ?_)
    simp [*]
    rfl
  · rcases r with _ | ⟨p2, k2, lv2, sz2, l2, r2⟩
    · rw [splitT]
      simp only [treeD_node, treeD_nil, strD]
      repeat (first | with_reducible refine seq_k fun K hK => ?_ | (with_reducible refine region_k fun K hK => ?_; simp [*]) | (with_reducible refine region_draw_k mixedO (by decide +kernel) fun K hK => ?_; simp [*]) | (with_reducible refine region_tame_a mixedO (by decide +kernel) fun K hK => ?_; simp [*, Low, isLoadB, isTameB, List.range_succ, List.range']) | with_reducible refine pwp_block ?_ | with_reducible refine pwp_skip ?_ | with_reducible refine pwp_ret ?_ | with_reducible refine pwp_exit ?_ | (with_reducible refine cond_t ?_ ?_; (focus (simp [*]; done))) | (with_reducible refine cond_f ?_ ?_; (focus (simp [*]; done))) | with_reducible refine then_n ?_ | with_reducible refine then_r ?_ | with_reducible refine then_e ?_ | with_reducible refine then_g ?_ | with_reducible refine inB_n ?_ | with_reducible refine inB_r ?_ | with_reducible refine inB_e ?_ | with_reducible refine inB_o rfl ?_ | with_reducible refine inB_g ?_ | with_reducible refine Leads.go (by assumption) ?_)
      simp [*]
    · have hm1 := levelOf_spec r2
      by_cases he : r2.lv = lv
      · have hm2 := made_spec (.node p k lv sz l (.node p2 k2 lv2 sz2 l2 r2)) (by intro q; cases q) lv l l2
        have hm3 := made_spec (.node p2 k2 lv2 sz2 l2 r2) (by intro q; cases q) (IntKind.i64.wrap (lv2 + 1)) (made (.node p k lv sz l (.node p2 k2 lv2 sz2 l2 r2)) lv l l2) r2
        rw [splitT, if_pos he]
        simp only [treeD_node, strD] at hm2 hm3 ⊢
        generalize made (.node p k lv sz l (.node p2 k2 lv2 sz2 l2 r2)) lv l l2 = M1 at *
        generalize made (.node p2 k2 lv2 sz2 l2 r2) (IntKind.i64.wrap (lv2 + 1)) M1 r2 = M2 at *
        repeat (first | with_reducible refine seq_k fun K hK => ?_ | (with_reducible refine region_k fun K hK => ?_; simp [*]) | (with_reducible refine region_draw_k mixedO (by decide +kernel) fun K hK => ?_; simp [*]) | (with_reducible refine region_tame_a mixedO (by decide +kernel) fun K hK => ?_; simp [*, Low, isLoadB, isTameB, List.range_succ, List.range']) | with_reducible refine pwp_block ?_ | with_reducible refine pwp_skip ?_ | with_reducible refine pwp_ret ?_ | with_reducible refine pwp_exit ?_ | (with_reducible refine cond_t ?_ ?_; (focus (simp [*]; done))) | (with_reducible refine cond_f ?_ ?_; (focus (simp [*]; done))) | with_reducible refine then_n ?_ | with_reducible refine then_r ?_ | with_reducible refine then_e ?_ | with_reducible refine then_g ?_ | with_reducible refine inB_n ?_ | with_reducible refine inB_r ?_ | with_reducible refine inB_e ?_ | with_reducible refine inB_o rfl ?_ | with_reducible refine inB_g ?_ | with_reducible refine Leads.go (by assumption) ?_)
        refine PCalls.mono (hm1 _) ?_
        intro d3 H3 hd3
        rw [hd3.1, hd3.2]
        clear hd3
        try simp [*]
        repeat (first | with_reducible refine seq_k fun K hK => ?_ | (with_reducible refine region_k fun K hK => ?_; simp [*]) | (with_reducible refine region_draw_k mixedO (by decide +kernel) fun K hK => ?_; simp [*]) | (with_reducible refine region_tame_a mixedO (by decide +kernel) fun K hK => ?_; simp [*, Low, isLoadB, isTameB, List.range_succ, List.range']) | with_reducible refine pwp_block ?_ | with_reducible refine pwp_skip ?_ | with_reducible refine pwp_ret ?_ | with_reducible refine pwp_exit ?_ | (with_reducible refine cond_t ?_ ?_; (focus (simp [*]; done))) | (with_reducible refine cond_f ?_ ?_; (focus (simp [*]; done))) | with_reducible refine then_n ?_ | with_reducible refine then_r ?_ | with_reducible refine then_e ?_ | with_reducible refine then_g ?_ | with_reducible refine inB_n ?_ | with_reducible refine inB_r ?_ | with_reducible refine inB_e ?_ | with_reducible refine inB_o rfl ?_ | with_reducible refine inB_g ?_ | with_reducible refine Leads.go (by assumption) ?_)
        refine PCalls.mono (hm2 _) ?_
        intro d3 H3 hd3
        rw [hd3.1, hd3.2]
        clear hd3
        try simp [*]
        refine PCalls.mono (hm3 _) ?_
        intro d3 H3 hd3
        rw [hd3.1, hd3.2]
        clear hd3
        try simp [*]
        repeat (first | with_reducible refine seq_k fun K hK => ?_ | (with_reducible refine region_k fun K hK => ?_; simp [*]) | (with_reducible refine region_draw_k mixedO (by decide +kernel) fun K hK => ?_; simp [*]) | (with_reducible refine region_tame_a mixedO (by decide +kernel) fun K hK => ?_; simp [*, Low, isLoadB, isTameB, List.range_succ, List.range']) | with_reducible refine pwp_block ?_ | with_reducible refine pwp_skip ?_ | with_reducible refine pwp_ret ?_ | with_reducible refine pwp_exit ?_ | (with_reducible refine cond_t ?_ ?_; (focus (simp [*]; done))) | (with_reducible refine cond_f ?_ ?_; (focus (simp [*]; done))) | with_reducible refine then_n ?_ | with_reducible refine then_r ?_ | with_reducible refine then_e ?_ | with_reducible refine then_g ?_ | with_reducible refine inB_n ?_ | with_reducible refine inB_r ?_ | with_reducible refine inB_e ?_ | with_reducible refine inB_o rfl ?_ | with_reducible refine inB_g ?_ | with_reducible refine Leads.go (by assumption) ?_)
        simp [*]
      · rw [splitT, if_neg he]
        simp only [treeD_node, strD]
        repeat (first | with_reducible refine seq_k fun K hK => ?_ | (with_reducible refine region_k fun K hK => ?_; simp [*]) | (with_reducible refine region_draw_k mixedO (by decide +kernel) fun K hK => ?_; simp [*]) | (with_reducible refine region_tame_a mixedO (by decide +kernel) fun K hK => ?_; simp [*, Low, isLoadB, isTameB, List.range_succ, List.range']) | with_reducible refine pwp_block ?_ | with_reducible refine pwp_skip ?_ | with_reducible refine pwp_ret ?_ | with_reducible refine pwp_exit ?_ | (with_reducible refine cond_t ?_ ?_; (focus (simp [*]; done))) | (with_reducible refine cond_f ?_ ?_; (focus (simp [*]; done))) | with_reducible refine then_n ?_ | with_reducible refine then_r ?_ | with_reducible refine then_e ?_ | with_reducible refine then_g ?_ | with_reducible refine inB_n ?_ | with_reducible refine inB_r ?_ | with_reducible refine inB_e ?_ | with_reducible refine inB_o rfl ?_ | with_reducible refine inB_g ?_ | with_reducible refine Leads.go (by assumption) ?_)
        refine PCalls.mono (hm1 _) ?_
        intro d3 H3 hd3
        rw [hd3.1, hd3.2]
        clear hd3
        try simp [*]
        repeat (first | with_reducible refine seq_k fun K hK => ?_ | (with_reducible refine region_k fun K hK => ?_; simp [*]) | (with_reducible refine region_draw_k mixedO (by decide +kernel) fun K hK => ?_; simp [*]) | (with_reducible refine region_tame_a mixedO (by decide +kernel) fun K hK => ?_; simp [*, Low, isLoadB, isTameB, List.range_succ, List.range']) | with_reducible refine pwp_block ?_ | with_reducible refine pwp_skip ?_ | with_reducible refine pwp_ret ?_ | with_reducible refine pwp_exit ?_ | (with_reducible refine cond_t ?_ ?_; (focus (simp [*]; done))) | (with_reducible refine cond_f ?_ ?_; (focus (simp [*]; done))) | with_reducible refine then_n ?_ | with_reducible refine then_r ?_ | with_reducible refine then_e ?_ | with_reducible refine then_g ?_ | with_reducible refine inB_n ?_ | with_reducible refine inB_r ?_ | with_reducible refine inB_e ?_ | with_reducible refine inB_o rfl ?_ | with_reducible refine inB_g ?_ | with_reducible refine Leads.go (by assumption) ?_)
        simp [*]
end Go.Pv
