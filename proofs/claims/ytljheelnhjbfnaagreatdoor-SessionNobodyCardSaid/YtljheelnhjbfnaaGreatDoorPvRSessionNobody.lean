/- The law SessionNobody holds for every input: out of its run and the tied card. Condition: the listed variables of the library read as listed, which the card ties to the text. -/
import Derived.Test.YtljheelnhjbfnaaGreatDoorPvWSessionNobody
import Derived.Test.YtljheelnhjbfnaaGreatDoorCards
import Derived.Test.YtljheelnhjbfnaaGreatDoorTie
import Derived.WalkKit
import Derived.ProofKit
import Derived.OpenShut
import Derived.LaidMore
import Derived.Lay
import Derived.LaidHandle
import Derived.Below
import Derived.Carry
import Derived.SevenTiedAt
import Derived.Stop.Joined
import Derived.Deep.DeepLaidRun
namespace Go.Proofs.YtljheelnhjbfnaaGreatDoor.sessionNobody
open Go.ChangeShapes Go.WideShapes Go.ChangeAt Go.RowKit Go.Pv
theorem own : ownKnob Tryz.prog.godebug = none := by kernel_rfl
theorem laidOut : laidOutB Tryz.prog = true := by kernel_rfl
theorem lv0 : leavesOf Tryz.prog 32 = some [.int .i64, .int .i64, .int .i64, .int .i64, .str, .str, .int .i64, .int .i64, .bool, .int .i64, .sl, .str, .str, .str, .str, .sl, .sl, .sl, .sl, .str, .str, .bool, .bool, .str, .str, .int .i64, .int .i64, .str, .str, .sl, .str] := by kernel_rfl
noncomputable def laidWorld (os : Os) : World :=
  let w0 := World.laidAll Tryz.prog os (Rows.sessionNobodyRow.laid.filter fun x => x.2.handleName?.isNone)
  { w0 with heap := w0.heap.modify 0 fun
      | .cells _ t frozen => .cells #[.iface 138 (.agg #[.pointer (some ⟨4, 70, none⟩)])] t frozen
      | o => o }
theorem laidWorld_met (os : Os) (args : Array Value) : laidMetH Tryz.prog Rows.sessionNobodyRow.laid ((laidWorld os).forCall (fun _ _ => 0) ⟨#[], args, []⟩).memory :=
  laidMetH_of_parts (laidMet_of_run3 8 (by kernel_rfl) (by kernel_rfl) (by kernel_rfl)) (by kernel_rfl)
set_option maxRecDepth 100000 in
theorem lifted (os : Os) (started : os.Started) (H : Type) (enc : TypeId × Value → H) :
    ReturnsInHanded {} Tryz.checked os 3 .any (fun w args => (Rows.sessionNobodySpec.pre enc Tryz.prog Tryz.f3 [] false w args ∧ laidMetH Tryz.prog Rows.sessionNobodyRow.laid w) ∧ sizedMet enc Tryz.prog Tryz.f3 (OpenSpec.ofChange Rows.sessionNobodySpec) false w args)
      (Rows.sessionNobodySpec.post enc Tryz.prog Tryz.f3 false true false false) := by
  refine returnsInHanded_of_change_and (C := Tryz.checked) (X := fun w _ => laidMetH Tryz.prog Rows.sessionNobodyRow.laid w) (fun _ _ _ hh h => h.of_heap hh) own started (by kernel_rfl) Tryz.func3
    (ChangeSpec.witness_shaped (enc := enc) (C := Tryz.checked) (os := os) (X := fun w _ => laidMetH Tryz.prog Rows.sessionNobodyRow.laid w) false (laidWorld os) #[.agg #[.int .i64 0, .int .i64 0, .int .i64 0, .int .i64 0, .string ByteArray.empty, .string ByteArray.empty, .int .i64 0, .int .i64 0, .bool false, .int .i64 0, .slice none 0 0, .string ByteArray.empty, .string ByteArray.empty, .string ByteArray.empty, .string ByteArray.empty, .slice none 0 0, .slice none 0 0, .slice none 0 0, .slice none 0 0, .string ByteArray.empty, .string ByteArray.empty, .bool false, .bool false, .string ByteArray.empty, .string ByteArray.empty, .int .i64 0, .int .i64 0, .string ByteArray.empty, .string ByteArray.empty, .slice none 0 0, .string ByteArray.empty]] 8 (World.laidAll_os _ _ _)
      (World.shaped_of_RefB (by kernel_rfl) (by kernel_rfl)) (by kernel_rfl) (by kernel_rfl) (by kernel_rfl)
      (laidWorld_met os _)) ?_
  intro W base args ds gs before hval0 hW hc _ hL _
  have hval : ∀ (j : Nat) t v, Tryz.f3.params[j]? = some t → args[j]? = some v → Value.okWide Tryz.prog W .any base t v := hval0
  have hW' := hW
  obtain ⟨p, q, hA0, hV, rfl, hfz, hnd⟩ := hW
  have hA : DataW.TrodAll enc Tryz.prog W 0 (fun _ => true) true Tryz.f3.params.toList args.toList ds p := hA0
  rw [Tryz.params3] at hA hval
  obtain ⟨v0, vs0, d0, ds0, p0, q0, hargs, rfl, rfl, h0, r0⟩ := trodAll_cons hA
  obtain ⟨rfl, rfl, rfl⟩ := trodAll_nil r0
  obtain rfl : args = #[v0] := by cases args; simp_all
  obtain ⟨rfl, rfl⟩ := trodVars_none hV
  obtain ⟨cs0, rfl, f0⟩ := agg_shape (hval 0 32 v0 rfl rfl) lv0
  obtain ⟨_, _, rfl, ⟨n0_0, rfl⟩, f0⟩ := f0
  obtain ⟨_, _, rfl, ⟨n0_1, rfl⟩, f0⟩ := f0
  obtain ⟨_, _, rfl, ⟨n0_2, rfl⟩, f0⟩ := f0
  obtain ⟨_, _, rfl, ⟨n0_3, rfl⟩, f0⟩ := f0
  obtain ⟨_, _, rfl, ⟨s0_4, rfl⟩, f0⟩ := f0
  obtain ⟨_, _, rfl, ⟨s0_5, rfl⟩, f0⟩ := f0
  obtain ⟨_, _, rfl, ⟨n0_6, rfl⟩, f0⟩ := f0
  obtain ⟨_, _, rfl, ⟨n0_7, rfl⟩, f0⟩ := f0
  obtain ⟨_, _, rfl, ⟨b0_8, rfl⟩, f0⟩ := f0
  obtain ⟨_, _, rfl, ⟨n0_9, rfl⟩, f0⟩ := f0
  obtain ⟨_, _, rfl, ⟨a0_10, l0_10, c0_10, rfl⟩, f0⟩ := f0
  obtain ⟨_, _, rfl, ⟨s0_11, rfl⟩, f0⟩ := f0
  obtain ⟨_, _, rfl, ⟨s0_12, rfl⟩, f0⟩ := f0
  obtain ⟨_, _, rfl, ⟨s0_13, rfl⟩, f0⟩ := f0
  obtain ⟨_, _, rfl, ⟨s0_14, rfl⟩, f0⟩ := f0
  obtain ⟨_, _, rfl, ⟨a0_15, l0_15, c0_15, rfl⟩, f0⟩ := f0
  obtain ⟨_, _, rfl, ⟨a0_16, l0_16, c0_16, rfl⟩, f0⟩ := f0
  obtain ⟨_, _, rfl, ⟨a0_17, l0_17, c0_17, rfl⟩, f0⟩ := f0
  obtain ⟨_, _, rfl, ⟨a0_18, l0_18, c0_18, rfl⟩, f0⟩ := f0
  obtain ⟨_, _, rfl, ⟨s0_19, rfl⟩, f0⟩ := f0
  obtain ⟨_, _, rfl, ⟨s0_20, rfl⟩, f0⟩ := f0
  obtain ⟨_, _, rfl, ⟨b0_21, rfl⟩, f0⟩ := f0
  obtain ⟨_, _, rfl, ⟨b0_22, rfl⟩, f0⟩ := f0
  obtain ⟨_, _, rfl, ⟨s0_23, rfl⟩, f0⟩ := f0
  obtain ⟨_, _, rfl, ⟨s0_24, rfl⟩, f0⟩ := f0
  obtain ⟨_, _, rfl, ⟨n0_25, rfl⟩, f0⟩ := f0
  obtain ⟨_, _, rfl, ⟨n0_26, rfl⟩, f0⟩ := f0
  obtain ⟨_, _, rfl, ⟨s0_27, rfl⟩, f0⟩ := f0
  obtain ⟨_, _, rfl, ⟨s0_28, rfl⟩, f0⟩ := f0
  obtain ⟨_, _, rfl, ⟨a0_29, l0_29, c0_29, rfl⟩, f0⟩ := f0
  obtain ⟨_, _, rfl, ⟨s0_30, rfl⟩, f0⟩ := f0
  obtain rfl := f0
  have lt0 : ∀ x ∈ p0, x.block < W.heap.size := by obtain ⟨m, hm⟩ := h0; exact DataW.trod_lt m _ _ _ hm
  clear hA0 hval0
  refine (law_frame (G := fun _ => none) (fun g cs hg => by cases hg) Tryz.call3 (Go.Pv.SessionNobody.law_walk n0_0 n0_1 n0_2 n0_3 s0_4 s0_5 n0_6 n0_7 b0_8 n0_9 a0_10 l0_10 c0_10 s0_11 s0_12 s0_13 s0_14 a0_15 l0_15 c0_15 a0_16 l0_16 c0_16 a0_17 l0_17 c0_17 a0_18 l0_18 c0_18 s0_19 s0_20 b0_21 b0_22 s0_23 s0_24 n0_25 n0_26 s0_27 s0_28 a0_29 l0_29 c0_29 s0_30) (RepAll.one (rep_agg [.int .i64 n0_0, .int .i64 n0_1, .int .i64 n0_2, .int .i64 n0_3, .string s0_4, .string s0_5, .int .i64 n0_6, .int .i64 n0_7, .bool b0_8, .int .i64 n0_9, .slice a0_10 l0_10 c0_10, .string s0_11, .string s0_12, .string s0_13, .string s0_14, .slice a0_15 l0_15 c0_15, .slice a0_16 l0_16 c0_16, .slice a0_17 l0_17 c0_17, .slice a0_18 l0_18 c0_18, .string s0_19, .string s0_20, .bool b0_21, .bool b0_22, .string s0_23, .string s0_24, .int .i64 n0_25, .int .i64 n0_26, .string s0_27, .string s0_28, .slice a0_29 l0_29 c0_29, .string s0_30]) RepAll.none)).mono fun e W' ⟨he, bel⟩ => ?_
  subst he
  exact ⟨_, rfl, _, _, _, [], _, [], hW', trodAll_mk1 (shut_bool Tryz.underlying4 _), (trodAll_cons_mk (Below.trod laidOut (by kernel_rfl) (of_decide_eq_true (by kernel_rfl)) h0 bel lt0) trodAll_mk0), rfl, bel.frame _, fun h => by cases h⟩
theorem over : Rows.sessionNobodyRow.holds Tryz.pinned (OpenSpec.ofChange Rows.sessionNobodySpec) :=
  OpenClaim.holds_of_wide 3 Tryz.f3 rfl rfl rfl rfl rfl rfl rfl ⟨rfl, rfl, rfl, rfl, rfl⟩ rfl rfl rfl rfl rfl (by kernel_rfl) Tryz.func3 (by kernel_rfl)
    (of_decide_eq_true (by kernel_rfl)) (by unfold Func.isWrapper; first | (rw [if_pos (by decide +kernel)]; kernel_rfl) | (rw [if_neg (by decide +kernel)]; exact ⟨rfl, rfl⟩))
    (fun os started H enc _ => lifted os started H enc)
theorem card_holds : Rows.SessionNobodyCardSaid :=
  Claim7.holds_tied_plain_at .later [] [.data, .handle, .pinned] true (true, "ea7e1ee3e33b44b054c8115f3f9ff2068bdafbc6fe7a9444d7b3dccd806b0565") true over (fun _ h => by cases h) (by kernel_rfl) (fun _ h => by cases h) sessionNobody_row_tie rfl ⟨rfl, rfl⟩ (by kernel_rfl) rfl
    (fun f fn hf hfn => by
      obtain rfl : f = 3 := Option.some.inj ((show Tryz.prog.funcNamed "peerage/peeragelaw30.SessionNobody" = some 3 by kernel_rfl).symm.trans hf) |>.symm
      obtain rfl : fn = Tryz.f3 := (Option.some.inj (Tryz.func3.symm.trans hfn)).symm
      exact ⟨by kernel_rfl, fun j t ht => by
        rw [Tryz.params3] at ht
        have hm : t ∈ [32] := by simpa using Array.mem_of_getElem? ht
        have hall : ([32].all fun u => !Tryz.prog.wantsStandIn u) = true := by kernel_rfl
        exact (show Tryz.prog.wantsStandIn t = false by simpa using List.all_eq_true.1 hall t hm)⟩)
    (by kernel_rfl)
#print axioms card_holds
end Go.Proofs.YtljheelnhjbfnaaGreatDoor.sessionNobody
namespace Go.Proofs.YtljheelnhjbfnaaGreatDoor
/-- The card, under a short name, for the claim. -/
theorem sessionNobody_card_holds : Rows.SessionNobodyCardSaid := sessionNobody.card_holds
end Go.Proofs.YtljheelnhjbfnaaGreatDoor
