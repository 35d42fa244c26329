/- A part of the proof: functions of the program, walked, or what operations come to. -/
import Derived.Test.YtpedcchnhjffpaaGreatPvTameA
import Derived.Test.YtpedcchnhjffpaaGreatPvGen
/-! ### A walk, as far as it goes -/
namespace Go.Pv
open Go.RowKit
/-- What is not looked into: an element of a type of its own keeps simp away. -/
inductive Tok (F : PSt → Prop) : Type where
  | mk
def Hid (F : PSt → Prop) (_ : Tok F) (st : PSt) : Prop := F st
section
variable {P : Program} {n : Nat} {Q : Exit → PSt → Prop} {st : PSt}
theorem go_w {F : PSt → Prop} (h : F st) : Hid F .mk st := h
theorem seq_w {x y : Code} (h : pwp P n x (thenP (Hid (pwp P n y Q) .mk) Q) st) : pwp P n (.seq x y) Q st := pwp_seq h
theorem region_w {id : Nat} {ops : List Oper} (h : pops P ops.toArray ops (Hid (fun st => Q .normal st) .mk) st) : pwp P n (.region id ops.toArray false) Q st := pwp_region h
theorem draw_w (hm : P.follows .mixedOrders = true) {id : Nat} {ops : List Oper} (hok : drawOk P ops = true) (h : pops P ops.toArray ops (Hid (fun st => Q .normal st) .mk) st) : pwp P n (.region id ops.toArray true) Q st := pwp_region_draw hm hok h
theorem drawT_w (hm : P.follows .mixedOrders = true) {id : Nat} {ops : List Oper} (hok : drawOkT P ops = true) (h : pops P ops.toArray ops (Hid (fun st => Q .normal st) .mk) st) : pwp P n (.region id ops.toArray true) Q st := pwp_region_drawT hm hok h
theorem tame_w {E : Env} {H : Heap} {df : List (FuncId × List D)} (hm : P.follows .mixedOrders = true) {id : Nat} {ops : List Oper} (hok : drawOkQ P ops (tameI ops) (openI ops) = true)
    (h : popsA P ops H.nx (Hid (fun st => Q .normal st) .mk) (List.range' 0 ops.length) ⟨E, H, df⟩) : pwp P n (.region id ops.toArray true) Q ⟨E, H, df⟩ := pwp_region_tame hm H.nx _ _ hok h
end
structure Wlk (A G : Prop) : Prop where
  go : G → A
theorem wl {A B G : Prop} (h : B → A) (k : Wlk B G) : Wlk A G := ⟨fun g => h (k.go g)⟩
theorem wlc {A B C G : Prop} (h : C → B → A) (hc : C) (k : Wlk B G) : Wlk A G := ⟨fun g => h hc (k.go g)⟩
theorem we {A : Prop} : Wlk A A := ⟨id⟩
theorem W0 {A G : Prop} (h : G) (w : Wlk A G := by
  repeat (first
    | (with_reducible first | apply wl seq_w | apply wl pwp_block | apply wl pwp_skip | apply wl pwp_ret | apply wl pwp_exit | apply wl then_n | apply wl then_r | apply wl then_e | apply wl then_g | apply wl inB_n | apply wl inB_r | apply wl inB_e | apply wl (inB_o rfl) | apply wl inB_g | apply wl go_w | apply wl (Leads.go (by assumption)))
    | (with_reducible apply wl region_w; simp [*])
    | (with_reducible apply wl (draw_w mixedO (by decide +kernel)); simp [*])
    | (with_reducible apply wlc cond_t; (focus (simp [*] <;> omega)))
    | (with_reducible apply wlc cond_f; (focus (simp [*] <;> omega)))
    | (with_reducible apply wlc And.intro; (focus (first | omega | (simp only [ByteArray.size, List.size_toArray, List.length_append, List.length_cons, List.length_nil, List.length_map, List.length_take]; omega)))))
  exact we) : A := w.go h
theorem W1 {A G : Prop} (h : G) (w : Wlk A G := by
  repeat (first
    | (with_reducible first | apply wl seq_w | apply wl pwp_block | apply wl pwp_skip | apply wl pwp_ret | apply wl pwp_exit | apply wl then_n | apply wl then_r | apply wl then_e | apply wl then_g | apply wl inB_n | apply wl inB_r | apply wl inB_e | apply wl (inB_o rfl) | apply wl inB_g | apply wl go_w | apply wl (Leads.go (by assumption)))
    | (with_reducible apply wl region_w; simp [*])
    | (with_reducible apply wl (drawT_w mixedO (by decide +kernel)); simp [*])
    | (with_reducible apply wlc cond_t; (focus (simp [*] <;> omega)))
    | (with_reducible apply wlc cond_f; (focus (simp [*] <;> omega)))
    | (with_reducible apply wlc And.intro; (focus (first | omega | (simp only [ByteArray.size, List.size_toArray, List.length_append, List.length_cons, List.length_nil, List.length_map, List.length_take]; omega)))))
  exact we) : A := w.go h
theorem W2 {A G : Prop} (h : G) (w : Wlk A G := by
  repeat (first
    | (with_reducible first | apply wl seq_w | apply wl pwp_block | apply wl pwp_skip | apply wl pwp_ret | apply wl pwp_exit | apply wl then_n | apply wl then_r | apply wl then_e | apply wl then_g | apply wl inB_n | apply wl inB_r | apply wl inB_e | apply wl (inB_o rfl) | apply wl inB_g | apply wl go_w | apply wl (Leads.go (by assumption)))
    | (with_reducible apply wl region_w; simp [*])
    | (with_reducible apply wl (drawT_w mixedO (by decide +kernel)); simp [*])
    | (with_reducible apply wl (tame_w mixedO (by decide +kernel)); simp [*, Low, isLoadB, isTameB, List.range_succ, List.range'])
    | (with_reducible apply wlc cond_t; (focus (simp [*] <;> omega)))
    | (with_reducible apply wlc cond_f; (focus (simp [*] <;> omega)))
    | (with_reducible apply wlc And.intro; (focus (first | omega | (simp only [ByteArray.size, List.size_toArray, List.length_append, List.length_cons, List.length_nil, List.length_map, List.length_take]; omega)))))
  exact we) : A := w.go h
theorem W3 {A G : Prop} (h : G) (w : Wlk A G := by
  repeat (first
    | (with_reducible first | apply wl seq_w | apply wl pwp_block | apply wl pwp_skip | apply wl pwp_ret | apply wl pwp_exit | apply wl then_n | apply wl then_r | apply wl then_e | apply wl then_g | apply wl inB_n | apply wl inB_r | apply wl inB_e | apply wl (inB_o rfl) | apply wl inB_g | apply wl go_w | apply wl (Leads.go (by assumption)))
    | (with_reducible apply wl region_w; simp [*])
    | (with_reducible apply wl (draw_w mixedO (by decide +kernel)); simp [*])
    | (with_reducible apply wl (tame_w mixedO (by decide +kernel)); simp [*, Low, isLoadB, isTameB, List.range_succ, List.range'])
    | (with_reducible apply wlc cond_t; (focus (simp [*] <;> omega)))
    | (with_reducible apply wlc cond_f; (focus (simp [*] <;> omega)))
    | (with_reducible apply wlc And.intro; (focus (first | omega | (simp only [ByteArray.size, List.size_toArray, List.length_append, List.length_cons, List.length_nil, List.length_map, List.length_take]; omega)))))
  exact we) : A := w.go h
end Go.Pv
