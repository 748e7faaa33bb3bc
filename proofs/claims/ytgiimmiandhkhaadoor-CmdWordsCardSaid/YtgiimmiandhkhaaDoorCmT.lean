/- CmdWords: the walk. Printed by gen-cmt.py. -/
import Derived.Test.YtgiimmiandhkhaaDoorProg
import Derived.Test.YtgiimmiandhkhaaDoorCmQ
namespace Go.Proofs.YtgiimmiandhkhaaDoor
open Go.RowKit
set_option linter.unusedSimpArgs false
set_option linter.unusedVariables false

theorem msk8 (x : Int) : ∃ M : Nat, M < 256 ∧ bits .and .i64 x 255 = (M : Int) := by
  refine ⟨(x % 256).toNat, by omega, ?_⟩
  rw [i64_and255 x]
  omega
def mrW (j : Nat) : Bool := decide (j = 0)
def gW (W : Int) (i : Nat) : Nat := (bits .and .i64 (W / 2 ^ (bits .and .i64 (3 * (i : Int)) 31).toNat) 7).toNat
theorem gW_eq (W : Int) : ∀ k sh : Nat, bits .and .i64 (3 * (k : Int)) 31 = (sh : Int) → bits .and .i64 (W / 2 ^ sh) 7 = (gW W k : Int) := by
  intro k sh h
  unfold gW
  rw [h]
  obtain ⟨M, _, e⟩ := msk3 (W / 2 ^ sh)
  rw [Int.toNat_natCast, e]
  rfl
theorem gW_lt (W : Int) : ∀ k, gW W k < 8 := by
  intro k
  unfold gW
  obtain ⟨M, h, e⟩ := msk3 (W / 2 ^ (bits .and .i64 (3 * (k : Int)) 31).toNat)
  rw [e]
  exact h
def rowsA : Array Value := #[.string ⟨#[115, 117, 98, 109, 105, 116]⟩, .int .i64 3, .bool true, .bool true, .string ⟨#[97, 102, 116, 101, 114]⟩, .int .i64 4, .bool true, .bool false, .string ⟨#[101, 118, 101, 114, 121]⟩, .int .i64 5, .bool true, .bool false, .string ⟨#[99, 97, 110, 99, 101, 108]⟩, .int .i64 1, .bool false, .bool false, .string ⟨#[97, 100, 118, 97, 110, 99, 101]⟩, .int .i64 2, .bool false, .bool false, .string ⟨#[112, 105, 99, 107]⟩, .int .i64 2, .bool false, .bool false, .string ⟨#[114, 111, 117, 110, 100]⟩, .int .i64 1, .bool false, .bool false, .string ⟨#[114, 101, 115, 116]⟩, .int .i64 2, .bool false, .bool false, .string ⟨#[115, 116, 97, 116, 117, 115]⟩, .int .i64 1, .bool false, .bool false, .string ⟨#[115, 116, 97, 116, 101]⟩, .int .i64 0, .bool false, .bool false, .string ⟨#[99, 108, 111, 115, 101]⟩, .int .i64 1, .bool false, .bool false, .string ⟨#[115, 104, 117, 116, 100, 111, 119, 110]⟩, .int .i64 0, .bool false, .bool false, .string ⟨#[101, 118, 101, 110, 116, 115]⟩, .int .i64 0, .bool false, .bool false, .string ⟨#[114, 104, 111]⟩, .int .i64 0, .bool false, .bool false]
theorem rowsA_at (J : Nat) (h : J < 14) : rowsA[J * 4]? = some (.string (mk (nmW J))) ∧ rowsA[J * 4 + 1]? = some (.int .i64 (rnW J : Int)) ∧ rowsA[J * 4 + 2]? = some (.bool (bdW J)) ∧ rowsA[J * 4 + 3]? = some (.bool (mrW J)) := by
  have : J = 0 ∨ J = 1 ∨ J = 2 ∨ J = 3 ∨ J = 4 ∨ J = 5 ∨ J = 6 ∨ J = 7 ∨ J = 8 ∨ J = 9 ∨ J = 10 ∨ J = 11 ∨ J = 12 ∨ J = 13 := by omega
  rcases this with rfl | rfl | rfl | rfl | rfl | rfl | rfl | rfl | rfl | rfl | rfl | rfl | rfl | rfl <;> exact ⟨rfl, rfl, rfl, rfl⟩
theorem rn_le (j : Nat) (hj : j < 14) : rnW j ≤ 5 := by
  have : j = 0 ∨ j = 1 ∨ j = 2 ∨ j = 3 ∨ j = 4 ∨ j = 5 ∨ j = 6 ∨ j = 7 ∨ j = 8 ∨ j = 9 ∨ j = 10 ∨ j = 11 ∨ j = 12 ∨ j = 13 := by omega
  rcases this with rfl | rfl | rfl | rfl | rfl | rfl | rfl | rfl | rfl | rfl | rfl | rfl | rfl | rfl <;> decide

set_option maxRecDepth 40000 in
set_option maxHeartbeats 8000000 in
theorem cwords_calls (k n W : Int) (w : World) (hG : Gl w) : Calls Tryd.prog 3 #[.int .i64 k, .int .i64 n, .int .i64 W] w fun e w' => e = .returned (.bool true) ∧ Ext NoB w w' := by
  obtain ⟨K, hK, eK⟩ := msk8 k
  obtain ⟨M, hM, eM⟩ := msk5 n
  obtain ⟨J, hJ, eJ⟩ : ∃ J : Nat, J < 14 ∧ ((K : Int) % 14) = (J : Int) := ⟨K % 14, by omega, by omega⟩
  have hmf : ∀ (fn : Fn) (first cap : Array Value) (w : World), (Instr.makeFunc fn first cap).run Tryd.prog w = .ok (.func fn first cap) w := fun _ _ _ _ => rfl
  have hrn := rn_le J hJ
  have hrow : ((w.alloc (.cells #[.int .i64 W] 3)).alloc (.cells #[.string ⟨#[115, 117, 98, 109, 105, 116]⟩, .int .i64 3, .bool true, .bool true, .string ⟨#[97, 102, 116, 101, 114]⟩, .int .i64 4, .bool true, .bool false, .string ⟨#[101, 118, 101, 114, 121]⟩, .int .i64 5, .bool true, .bool false, .string ⟨#[99, 97, 110, 99, 101, 108]⟩, .int .i64 1, .bool false, .bool false, .string ⟨#[97, 100, 118, 97, 110, 99, 101]⟩, .int .i64 2, .bool false, .bool false, .string ⟨#[112, 105, 99, 107]⟩, .int .i64 2, .bool false, .bool false, .string ⟨#[114, 111, 117, 110, 100]⟩, .int .i64 1, .bool false, .bool false, .string ⟨#[114, 101, 115, 116]⟩, .int .i64 2, .bool false, .bool false, .string ⟨#[115, 116, 97, 116, 117, 115]⟩, .int .i64 1, .bool false, .bool false, .string ⟨#[115, 116, 97, 116, 101]⟩, .int .i64 0, .bool false, .bool false, .string ⟨#[99, 108, 111, 115, 101]⟩, .int .i64 1, .bool false, .bool false, .string ⟨#[115, 104, 117, 116, 100, 111, 119, 110]⟩, .int .i64 0, .bool false, .bool false, .string ⟨#[101, 118, 101, 110, 116, 115]⟩, .int .i64 0, .bool false, .bool false, .string ⟨#[114, 104, 111]⟩, .int .i64 0, .bool false, .bool false] 22)).heap[w.heap.size + 1]? = some (.cells rowsA 22) := alloc_at' _ _ _ (by simp)
  have hbox : (w.alloc (.cells #[.int .i64 W] 3)).heap[w.heap.size]? = some (.cells #[.int .i64 W] 3) := alloc_at _ _
  have hx1 : Ext NoB w ((w.alloc (.cells #[.int .i64 W] 3)).alloc (.cells #[.string ⟨#[115, 117, 98, 109, 105, 116]⟩, .int .i64 3, .bool true, .bool true, .string ⟨#[97, 102, 116, 101, 114]⟩, .int .i64 4, .bool true, .bool false, .string ⟨#[101, 118, 101, 114, 121]⟩, .int .i64 5, .bool true, .bool false, .string ⟨#[99, 97, 110, 99, 101, 108]⟩, .int .i64 1, .bool false, .bool false, .string ⟨#[97, 100, 118, 97, 110, 99, 101]⟩, .int .i64 2, .bool false, .bool false, .string ⟨#[112, 105, 99, 107]⟩, .int .i64 2, .bool false, .bool false, .string ⟨#[114, 111, 117, 110, 100]⟩, .int .i64 1, .bool false, .bool false, .string ⟨#[114, 101, 115, 116]⟩, .int .i64 2, .bool false, .bool false, .string ⟨#[115, 116, 97, 116, 117, 115]⟩, .int .i64 1, .bool false, .bool false, .string ⟨#[115, 116, 97, 116, 101]⟩, .int .i64 0, .bool false, .bool false, .string ⟨#[99, 108, 111, 115, 101]⟩, .int .i64 1, .bool false, .bool false, .string ⟨#[115, 104, 117, 116, 100, 111, 119, 110]⟩, .int .i64 0, .bool false, .bool false, .string ⟨#[101, 118, 101, 110, 116, 115]⟩, .int .i64 0, .bool false, .bool false, .string ⟨#[114, 104, 111]⟩, .int .i64 0, .bool false, .bool false] 22)) := ((Ext.refl NoB w).alloc _).alloc _
  have hbox1 : ((w.alloc (.cells #[.int .i64 W] 3)).alloc (.cells #[.string ⟨#[115, 117, 98, 109, 105, 116]⟩, .int .i64 3, .bool true, .bool true, .string ⟨#[97, 102, 116, 101, 114]⟩, .int .i64 4, .bool true, .bool false, .string ⟨#[101, 118, 101, 114, 121]⟩, .int .i64 5, .bool true, .bool false, .string ⟨#[99, 97, 110, 99, 101, 108]⟩, .int .i64 1, .bool false, .bool false, .string ⟨#[97, 100, 118, 97, 110, 99, 101]⟩, .int .i64 2, .bool false, .bool false, .string ⟨#[112, 105, 99, 107]⟩, .int .i64 2, .bool false, .bool false, .string ⟨#[114, 111, 117, 110, 100]⟩, .int .i64 1, .bool false, .bool false, .string ⟨#[114, 101, 115, 116]⟩, .int .i64 2, .bool false, .bool false, .string ⟨#[115, 116, 97, 116, 117, 115]⟩, .int .i64 1, .bool false, .bool false, .string ⟨#[115, 116, 97, 116, 101]⟩, .int .i64 0, .bool false, .bool false, .string ⟨#[99, 108, 111, 115, 101]⟩, .int .i64 1, .bool false, .bool false, .string ⟨#[115, 104, 117, 116, 100, 111, 119, 110]⟩, .int .i64 0, .bool false, .bool false, .string ⟨#[101, 118, 101, 110, 116, 115]⟩, .int .i64 0, .bool false, .bool false, .string ⟨#[114, 104, 111]⟩, .int .i64 0, .bool false, .bool false] 22)).heap[w.heap.size]? = some (.cells #[.int .i64 W] 3) := ((Ext.refl NoB _).alloc _).keep hbox nb
  obtain ⟨r0, r1, r2, r3⟩ := rowsA_at J hJ
  have l0 := cell_of_row _ (w.heap.size + 1) (J * 4) _ _ (0, 0) hrow
  have l1 := cell_of_row _ (w.heap.size + 1) (J * 4 + 1) _ _ (0, 0) hrow
  have l2 := cell_of_row _ (w.heap.size + 1) (J * 4 + 2) _ _ (0, 0) hrow
  have l3 := cell_of_row _ (w.heap.size + 1) (J * 4 + 3) _ _ (0, 0) hrow
  rw [r0] at l0
  rw [r1] at l1
  rw [r2] at l2
  rw [r3] at l3
  clear r0 r1 r2 r3
  have hrow2 : (((w.alloc (.cells #[.int .i64 W] 3)).alloc (.cells #[.string ⟨#[115, 117, 98, 109, 105, 116]⟩, .int .i64 3, .bool true, .bool true, .string ⟨#[97, 102, 116, 101, 114]⟩, .int .i64 4, .bool true, .bool false, .string ⟨#[101, 118, 101, 114, 121]⟩, .int .i64 5, .bool true, .bool false, .string ⟨#[99, 97, 110, 99, 101, 108]⟩, .int .i64 1, .bool false, .bool false, .string ⟨#[97, 100, 118, 97, 110, 99, 101]⟩, .int .i64 2, .bool false, .bool false, .string ⟨#[112, 105, 99, 107]⟩, .int .i64 2, .bool false, .bool false, .string ⟨#[114, 111, 117, 110, 100]⟩, .int .i64 1, .bool false, .bool false, .string ⟨#[114, 101, 115, 116]⟩, .int .i64 2, .bool false, .bool false, .string ⟨#[115, 116, 97, 116, 117, 115]⟩, .int .i64 1, .bool false, .bool false, .string ⟨#[115, 116, 97, 116, 101]⟩, .int .i64 0, .bool false, .bool false, .string ⟨#[99, 108, 111, 115, 101]⟩, .int .i64 1, .bool false, .bool false, .string ⟨#[115, 104, 117, 116, 100, 111, 119, 110]⟩, .int .i64 0, .bool false, .bool false, .string ⟨#[101, 118, 101, 110, 116, 115]⟩, .int .i64 0, .bool false, .bool false, .string ⟨#[114, 104, 111]⟩, .int .i64 0, .bool false, .bool false] 22)).alloc (.cells #[.string (mk (nmW J)), .int .i64 (rnW J : Int), .bool (bdW J), .bool (mrW J)] 22)).heap[w.heap.size + 1 + 1]? = some (.cells #[.string (mk (nmW J)), .int .i64 (rnW J : Int), .bool (bdW J), .bool (mrW J)] 22) := alloc_at' _ _ _ (by simp)
  have hx2 : Ext NoB w (((w.alloc (.cells #[.int .i64 W] 3)).alloc (.cells #[.string ⟨#[115, 117, 98, 109, 105, 116]⟩, .int .i64 3, .bool true, .bool true, .string ⟨#[97, 102, 116, 101, 114]⟩, .int .i64 4, .bool true, .bool false, .string ⟨#[101, 118, 101, 114, 121]⟩, .int .i64 5, .bool true, .bool false, .string ⟨#[99, 97, 110, 99, 101, 108]⟩, .int .i64 1, .bool false, .bool false, .string ⟨#[97, 100, 118, 97, 110, 99, 101]⟩, .int .i64 2, .bool false, .bool false, .string ⟨#[112, 105, 99, 107]⟩, .int .i64 2, .bool false, .bool false, .string ⟨#[114, 111, 117, 110, 100]⟩, .int .i64 1, .bool false, .bool false, .string ⟨#[114, 101, 115, 116]⟩, .int .i64 2, .bool false, .bool false, .string ⟨#[115, 116, 97, 116, 117, 115]⟩, .int .i64 1, .bool false, .bool false, .string ⟨#[115, 116, 97, 116, 101]⟩, .int .i64 0, .bool false, .bool false, .string ⟨#[99, 108, 111, 115, 101]⟩, .int .i64 1, .bool false, .bool false, .string ⟨#[115, 104, 117, 116, 100, 111, 119, 110]⟩, .int .i64 0, .bool false, .bool false, .string ⟨#[101, 118, 101, 110, 116, 115]⟩, .int .i64 0, .bool false, .bool false, .string ⟨#[114, 104, 111]⟩, .int .i64 0, .bool false, .bool false] 22)).alloc (.cells #[.string (mk (nmW J)), .int .i64 (rnW J : Int), .bool (bdW J), .bool (mrW J)] 22)) := hx1.alloc _
  have hbox2 : (((w.alloc (.cells #[.int .i64 W] 3)).alloc (.cells #[.string ⟨#[115, 117, 98, 109, 105, 116]⟩, .int .i64 3, .bool true, .bool true, .string ⟨#[97, 102, 116, 101, 114]⟩, .int .i64 4, .bool true, .bool false, .string ⟨#[101, 118, 101, 114, 121]⟩, .int .i64 5, .bool true, .bool false, .string ⟨#[99, 97, 110, 99, 101, 108]⟩, .int .i64 1, .bool false, .bool false, .string ⟨#[97, 100, 118, 97, 110, 99, 101]⟩, .int .i64 2, .bool false, .bool false, .string ⟨#[112, 105, 99, 107]⟩, .int .i64 2, .bool false, .bool false, .string ⟨#[114, 111, 117, 110, 100]⟩, .int .i64 1, .bool false, .bool false, .string ⟨#[114, 101, 115, 116]⟩, .int .i64 2, .bool false, .bool false, .string ⟨#[115, 116, 97, 116, 117, 115]⟩, .int .i64 1, .bool false, .bool false, .string ⟨#[115, 116, 97, 116, 101]⟩, .int .i64 0, .bool false, .bool false, .string ⟨#[99, 108, 111, 115, 101]⟩, .int .i64 1, .bool false, .bool false, .string ⟨#[115, 104, 117, 116, 100, 111, 119, 110]⟩, .int .i64 0, .bool false, .bool false, .string ⟨#[101, 118, 101, 110, 116, 115]⟩, .int .i64 0, .bool false, .bool false, .string ⟨#[114, 104, 111]⟩, .int .i64 0, .bool false, .bool false] 22)).alloc (.cells #[.string (mk (nmW J)), .int .i64 (rnW J : Int), .bool (bdW J), .bool (mrW J)] 22)).heap[w.heap.size]? = some (.cells #[.int .i64 W] 3) := ((Ext.refl NoB _).alloc _).keep hbox1 nb
  have s1 := cell_of_row _ (w.heap.size + 1 + 1) 1 _ _ (0, 0) hrow2
  have hrow2 := Lib.hid hrow2
  have hbox2 := Lib.hid hbox2
  clear hrow hbox hbox1
  go_enter Tryd.func3, Tryd.ntmps3
  go_wp2_with fail
  generalize ((w.alloc (.cells #[.int .i64 W] 3)).alloc (.cells #[.string ⟨#[115, 117, 98, 109, 105, 116]⟩, .int .i64 3, .bool true, .bool true, .string ⟨#[97, 102, 116, 101, 114]⟩, .int .i64 4, .bool true, .bool false, .string ⟨#[101, 118, 101, 114, 121]⟩, .int .i64 5, .bool true, .bool false, .string ⟨#[99, 97, 110, 99, 101, 108]⟩, .int .i64 1, .bool false, .bool false, .string ⟨#[97, 100, 118, 97, 110, 99, 101]⟩, .int .i64 2, .bool false, .bool false, .string ⟨#[112, 105, 99, 107]⟩, .int .i64 2, .bool false, .bool false, .string ⟨#[114, 111, 117, 110, 100]⟩, .int .i64 1, .bool false, .bool false, .string ⟨#[114, 101, 115, 116]⟩, .int .i64 2, .bool false, .bool false, .string ⟨#[115, 116, 97, 116, 117, 115]⟩, .int .i64 1, .bool false, .bool false, .string ⟨#[115, 116, 97, 116, 101]⟩, .int .i64 0, .bool false, .bool false, .string ⟨#[99, 108, 111, 115, 101]⟩, .int .i64 1, .bool false, .bool false, .string ⟨#[115, 104, 117, 116, 100, 111, 119, 110]⟩, .int .i64 0, .bool false, .bool false, .string ⟨#[101, 118, 101, 110, 116, 115]⟩, .int .i64 0, .bool false, .bool false, .string ⟨#[114, 104, 111]⟩, .int .i64 0, .bool false, .bool false] 22)).alloc (.cells #[.string (mk (nmW J)), .int .i64 (rnW J : Int), .bool (bdW J), .bool (mrW J)] 22) = w2 at *
  clear l0 l1 l2 l3 hx1
  generalize (Value.agg #[.string ⟨#[115, 117, 98, 109, 105, 116]⟩, .int .i64 3, .bool true, .bool true]) = vr0
  generalize (Value.agg #[.string ⟨#[97, 102, 116, 101, 114]⟩, .int .i64 4, .bool true, .bool false]) = vr1
  generalize (Value.agg #[.string ⟨#[101, 118, 101, 114, 121]⟩, .int .i64 5, .bool true, .bool false]) = vr2
  generalize (Value.agg #[.string ⟨#[99, 97, 110, 99, 101, 108]⟩, .int .i64 1, .bool false, .bool false]) = vr3
  generalize (Value.agg #[.string ⟨#[97, 100, 118, 97, 110, 99, 101]⟩, .int .i64 2, .bool false, .bool false]) = vr4
  generalize (Value.agg #[.string ⟨#[112, 105, 99, 107]⟩, .int .i64 2, .bool false, .bool false]) = vr5
  generalize (Value.agg #[.string ⟨#[114, 111, 117, 110, 100]⟩, .int .i64 1, .bool false, .bool false]) = vr6
  generalize (Value.agg #[.string ⟨#[114, 101, 115, 116]⟩, .int .i64 2, .bool false, .bool false]) = vr7
  generalize (Value.agg #[.string ⟨#[115, 116, 97, 116, 117, 115]⟩, .int .i64 1, .bool false, .bool false]) = vr8
  generalize (Value.agg #[.string ⟨#[115, 116, 97, 116, 101]⟩, .int .i64 0, .bool false, .bool false]) = vr9
  generalize (Value.agg #[.string ⟨#[99, 108, 111, 115, 101]⟩, .int .i64 1, .bool false, .bool false]) = vr10
  generalize (Value.agg #[.string ⟨#[115, 104, 117, 116, 100, 111, 119, 110]⟩, .int .i64 0, .bool false, .bool false]) = vr11
  generalize (Value.agg #[.string ⟨#[101, 118, 101, 110, 116, 115]⟩, .int .i64 0, .bool false, .bool false]) = vr12
  generalize (Value.agg #[.string ⟨#[114, 104, 111]⟩, .int .i64 0, .bool false, .bool false]) = vr13
  have q1 : w2.cell? ⟨w.heap.size + 1 + 1, 1, none⟩ = some (.int .i64 (rnW J : Int)) := s1
  have q2 : w2.cell? ⟨w.heap.size + 1 + 1, 2, none⟩ = some (.bool (bdW J)) := cell_of_row w2 (w.heap.size + 1 + 1) 2 _ _ (0, 0) hrow2.out
  have q3 : w2.cell? ⟨w.heap.size + 1 + 1, 3, none⟩ = some (.bool (mrW J)) := cell_of_row w2 (w.heap.size + 1 + 1) 3 _ _ (0, 0) hrow2.out
  have q0 : w2.cell? ⟨w.heap.size + 1 + 1, 0, none⟩ = some (.string (mk (nmW J))) := cell_of_row w2 (w.heap.size + 1 + 1) 0 _ _ (0, 0) hrow2.out
  have qb : w2.cell? ⟨w.heap.size, 0, none⟩ = some (.int .i64 W) := cell_of_row w2 w.heap.size 0 _ _ (0, 0) hbox2.out
  clear s1 hrow2 hbox2
  generalize w.heap.size + 1 + 1 = br at *
  obtain ⟨bw, hbw⟩ : ∃ bw, w.heap.size = bw := ⟨_, rfl⟩
  rw [hbw] at qb ⊢
  clear hbw
  have hline : Hid (∀ q : Nat, q ≤ 31 → ∀ w', Ext NoB w2 w' → Calls Tryd.prog 5 #[.int .i64 (q : Int), .pointer (some ⟨br, 0, none⟩), .pointer (some ⟨bw, 0, none⟩)] w' fun e w'' => e = .returned (.string (mk (lineW (nmW J) (bdW J) (gW W) q))) ∧ Ext NoB w' w'') :=
    fun q hq w' hx => lineW_calls (gW W) (nmW J) (nm_len J hJ).1 (bdW J) W br bw q hq w' (gW_eq W) (gW_lt W) (hx.cell q0 nb) (hx.cell q2 nb) (hx.cell qb nb)
  have hw2 := Lib.hid (words_2 J hJ (gW W) (gW_lt W))
  obtain ⟨c, hc, hck, hcb, hcR⟩ := words_rn J hJ (gW W) (gW_lt W)
  have hT : textV c = (lineW (nmW J) (bdW J) (gW W) (rnW J), 0) := by unfold textV; rw [(cmd_told hc).1, if_pos hc]
  replace hck := Lib.hid hck
  refine (hline.out (rnW J) (by omega) w2 (Ext.refl _ _)).mono ?_
  rintro e w3 ⟨rfl, hx3⟩
  have hpa := cmParse_calls (mk (lineW (nmW J) (bdW J) (gW W) (rnW J)))
  rw [show (mk (lineW (nmW J) (bdW J) (gW W) (rnW J))).data.toList = lineW (nmW J) (bdW J) (gW W) (rnW J) by simp [mk], hc] at hpa
  dsimp only at hpa
  replace hpa := Lib.hid hpa
  have hG3 := hG.keep (hx2.trans hx3 (fun _ _ e => e))
  go_wp2_with fail
  refine (hpa.out w3 hG3).mono ?_
  rintro e w4 ⟨bv, pv, gb, gp, rfl, hOb, hOp, hgb, hgp, hx4⟩
  obtain ⟨Ab, cb, bb, ob, rfl, hrb, _⟩ := hOb.read
  obtain ⟨Ap, cp, bp, op, rfl, hrp, _⟩ := hOp.read
  clear hOb hOp hgb hgp hpa
  have hx5 : Ext NoB w4 (w4.alloc (.cells #[.int .i64 c.k, .int .i64 c.t, .int .i64 c.p, .int .i64 c.i, .int .u64 c.n, .int .u64 c.m, .slice Ab c.body.length cb, .slice Ap c.preds.length cp] 29)) := (Ext.refl NoB w4).alloc _
  have hrc := alloc_at w4 (.cells #[.int .i64 c.k, .int .i64 c.t, .int .i64 c.p, .int .i64 c.i, .int .u64 c.n, .int .u64 c.m, .slice Ab c.body.length cb, .slice Ap c.preds.length cp] 29)
  have ht := cmText_calls c hcR Ab Ap cb bb ob cp bp op _ ((hG3.keep hx4).keep hx5) (hrb.keep hx5 nb1) (hrp.keep hx5 nb1)
  rw [hT] at ht
  replace ht := Lib.hid ht
  replace hT := Lib.hid hT
  replace hc := Lib.hid hc
  clear hrb hrp
  go_wp2_with fail
  refine ht.out.mono ?_
  rintro e w6 ⟨rfl, hx6⟩
  clear ht
  have hx26 : Ext NoB w2 w6 := ((hx3.trans hx4 (fun _ _ e => e)).trans hx5 (fun _ _ e => e)).trans hx6 (fun _ _ e => e)
  have hrc6 := hx6.keep hrc nb
  have c0 : w6.cell? ⟨w4.heap.size, 0, none⟩ = some (.int .i64 c.k) := cell_of_row w6 w4.heap.size 0 _ _ (0, 0) hrc6
  have c6 : w6.cell? ⟨w4.heap.size, 6, none⟩ = some (.slice Ab c.body.length cb) := cell_of_row w6 w4.heap.size 6 _ _ (0, 0) hrc6
  rw [hck.out] at c0
  generalize w4.alloc (.cells #[.int .i64 c.k, .int .i64 c.t, .int .i64 c.p, .int .i64 c.i, .int .u64 c.n, .int .u64 c.m, .slice Ab c.body.length cb, .slice Ap c.preds.length cp] 29) = w5 at *
  generalize w4.heap.size = bc at *
  have p1 := hx26.cell q1 nb
  have p2 := hx26.cell q2 nb
  have p3 := hx26.cell q3 nb
  have hl6 := Lib.hid (hline.out (rnW J) (by omega) w6.drew hx26.drew)
  have hwJ : IntKind.i64.wrap ((J : Int) + 1) = (J : Int) + 1 := by rw [IntKind.wrap_i64]; omega
  have eT0 : Int.tmod (K : Int) 14 = ((K % 14 : Nat) : Int) := rfl
  have eT1 : ((K % 14 : Nat) : Int) = (J : Int) := by omega
  have eT : IntKind.i64.wrap (Int.tmod (K : Int) 14 + 1) = (J : Int) + 1 := by rw [eT0, eT1, hwJ]
  clear eT0 eT1
  have eJJ : (((J : Int) + 1) != ((J : Int) + 1)) = false := by simp
  generalize mk (lineW (nmW J) (bdW J) (gW W) (rnW J)) = Sb at *
  have eSS : (Sb == Sb) = true := (MapKept.bytes_beq _ _).2 rfl
  have eSS' : (Sb != Sb) = false := by show (!(Sb == Sb)) = false; rw [eSS]; rfl
  have hrn' : (rnW J : Int) ≤ 5 := by omega
  have hw16 : IntKind.i64.wrap ((rnW J : Int) + 16) = (rnW J : Int) + 16 := by rw [IntKind.wrap_i64]; omega
  have hcases : Hid ((M = rnW J ∧ goodW J M) ∨ (M ≠ rnW J ∧ mrW J = false ∧ ¬ goodW J M) ∨ (M ≠ rnW J ∧ mrW J = true ∧ rnW J < M ∧ M ≤ rnW J + 16 ∧ goodW J M) ∨ (M ≠ rnW J ∧ mrW J = true ∧ rnW J < M ∧ ¬ M ≤ rnW J + 16 ∧ ¬ goodW J M) ∨ (M ≠ rnW J ∧ mrW J = true ∧ ¬ rnW J < M ∧ ¬ goodW J M)) := by
    show _ ∨ _
    by_cases h0 : J = 0
    · subst h0
      have e1 : rnW 0 = 3 := rfl
      have e2 : mrW 0 = true := rfl
      have e3 : goodW 0 M ↔ (M = 3 ∨ (3 < M ∧ M ≤ 19)) := by unfold goodW; rw [e1]; simp
      rw [e3, e1, e2]
      simp
      omega
    · have e2 : mrW J = false := by simp [mrW, h0]
      have e3 : goodW J M ↔ M = rnW J := by unfold goodW; simp [h0]
      rw [e3, e2]
      simp
      omega
  rcases Bool.eq_false_or_eq_true (bdW J) with hb | hb
  · have p2' : w6.cell? ⟨br, 2, none⟩ = some (.bool true) := by rw [p2, hb]
    clear p2 q2
    have hcb2 : Hid (c.body.length = 2) := hcb hb
    clear hcb
    have c6' : w6.cell? ⟨bc, 6, none⟩ = some (.slice Ab 2 cb) := by rw [c6, hcb2.out]
    clear c6
    replace hb := Lib.hid hb
    go_wp2_with fail
    first | (go_region_held3 (fun w' => w'.cell? ⟨br, 1, none⟩ = some (.int .i64 (rnW J : Int)) ∧ w'.cell? ⟨br, 2, none⟩ = some (.bool true) ∧ w'.cell? ⟨bc, 0, none⟩ = some (.int .i64 ((J : Int) + 1)) ∧ w'.cell? ⟨bc, 6, none⟩ = some (.slice Ab 2 cb)) (first
      | exact ⟨p1, p2', c0, c6'⟩
      | exact ⟨hx7.cell p1 nb, hx7.cell p2' nb, hx7.cell c0 nb, hx7.cell c6' nb⟩) (first
      | (go_at_call 5; (with_reducible refine hl6.out.mono ?_); rintro e w7 ⟨rfl, hx7⟩))) | (fail)
    have hx27 : Ext NoB w2 w7 := hx26.drew.trans hx7 (fun _ _ e => e)
    clear hl6
    go_wp2_with fail
    refine (hline.out M (by omega) w7 hx27).mono ?_
    rintro e w8 ⟨rfl, hx8⟩
    have hpm := cmParse_calls (mk (lineW (nmW J) (bdW J) (gW W) M))
    rw [show (mk (lineW (nmW J) (bdW J) (gW W) M)).data.toList = lineW (nmW J) (bdW J) (gW W) M by simp [mk], hw2.out M (by omega)] at hpm
    generalize (cmdV (lineW (nmW J) (bdW J) (gW W) M)).1 = d at *
    generalize mk (lineW (nmW J) (bdW J) (gW W) M) = Sm at *
    have hx28 := hx27.trans hx8 (fun _ _ e => e)
    have hGm := hG.keep (hx2.trans hx28 (fun _ _ e => e))
    clear hline hw2
    generalize hgo : (if goodW J M then (0 : Int) else 3) = er at *
    replace hgo := Lib.hid hgo
    replace hpm := Lib.hid hpm
    go_wp2_with fail
    refine (hpm.out w8 hGm).mono ?_
    rintro e w9 ⟨bv9, pv9, gb9, gp9, rfl, hOb9, hOp9, hgb9, hgp9, hx9⟩
    obtain ⟨Ab9, cb9, bb9, ob9, rfl, hrb9, _⟩ := hOb9.read
    obtain ⟨Ap9, cp9, bp9, op9, rfl, hrp9, _⟩ := hOp9.read
    clear hOb9 hOp9 hgb9 hgp9 hpm hrb9 hrp9
    have hxa : Ext NoB w9 (w9.alloc (.cells #[.int .i64 d.k, .int .i64 d.t, .int .i64 d.p, .int .i64 d.i, .int .u64 d.n, .int .u64 d.m, .slice Ab9 d.body.length cb9, .slice Ap9 d.preds.length cp9] 29)) := (Ext.refl NoB w9).alloc _
    have hx2a := (hx28.trans hx9 (fun _ _ e => e)).trans hxa (fun _ _ e => e)
    have r1 := hx2a.cell q1 nb
    have r3 := hx2a.cell q3 nb
    have hGa := hG.keep (hx2.trans hx2a (fun _ _ e => e))
    rcases hcases.out with h | h | h | h | h
    · obtain ⟨h1, hgd⟩ := h
      obtain rfl : er = 0 := by rw [← hgo.out, if_pos hgd]
      have t1 : ((M : Int) == (rnW J : Int)) = true := by rw [h1]; simp
      have t2 : (M == rnW J) = true := by rw [h1]; simp
      clear hgo hgd
      replace h1 := Lib.hid h1
      go_wp2_with (first
        | (go_at_call 9; refine (awake24_calls _ hGa).mono ?_; rintro e wz ⟨rfl, hxz⟩))
      go_ret
      exact ⟨rfl, (hx2.trans hx2a (fun _ _ e => e)).trans hxz (fun _ _ e => e)⟩
    · obtain ⟨h1, h2, hgd⟩ := h
      obtain rfl : er = 3 := by rw [← hgo.out, if_neg hgd]
      have t1 : ((M : Int) == (rnW J : Int)) = false := by rw [beq_eq_false_iff_ne]; omega
      have t2 : (M == rnW J) = false := by rw [beq_eq_false_iff_ne]; omega
      rw [h2] at r3
      clear hgo hgd
      replace h1 := Lib.hid h1
      go_wp2_with (first
        | (go_at_call 9; refine (awake24_calls _ hGa).mono ?_; rintro e wz ⟨rfl, hxz⟩))
      go_ret
      exact ⟨rfl, (hx2.trans hx2a (fun _ _ e => e)).trans hxz (fun _ _ e => e)⟩
    · obtain ⟨h1, h2, h3, h4, hgd⟩ := h
      obtain rfl : er = 0 := by rw [← hgo.out, if_pos hgd]
      have t1 : ((M : Int) == (rnW J : Int)) = false := by rw [beq_eq_false_iff_ne]; omega
      have t2 : (M == rnW J) = false := by rw [beq_eq_false_iff_ne]; omega
      rw [h2] at r3
      have t3 : decide ((rnW J : Int) < (M : Int)) = true := by simp; omega
      have t4 : decide (rnW J < M) = true := by simp; omega
      have t5 : decide ((M : Int) ≤ (rnW J : Int) + 16) = true := by simp; omega
      have t6 : decide (M ≤ rnW J + 16) = true := by simp; omega
      clear hgo hgd
      replace h1 := Lib.hid h1
      go_wp2_with (first
        | (go_at_call 9; refine (awake24_calls _ hGa).mono ?_; rintro e wz ⟨rfl, hxz⟩))
      go_ret
      exact ⟨rfl, (hx2.trans hx2a (fun _ _ e => e)).trans hxz (fun _ _ e => e)⟩
    · obtain ⟨h1, h2, h3, h4, hgd⟩ := h
      obtain rfl : er = 3 := by rw [← hgo.out, if_neg hgd]
      have t1 : ((M : Int) == (rnW J : Int)) = false := by rw [beq_eq_false_iff_ne]; omega
      have t2 : (M == rnW J) = false := by rw [beq_eq_false_iff_ne]; omega
      rw [h2] at r3
      have t3 : decide ((rnW J : Int) < (M : Int)) = true := by simp; omega
      have t4 : decide (rnW J < M) = true := by simp; omega
      have t5 : decide ((M : Int) ≤ (rnW J : Int) + 16) = false := by simp; omega
      have t6 : decide (M ≤ rnW J + 16) = false := by simp; omega
      clear hgo hgd
      replace h1 := Lib.hid h1
      go_wp2_with (first
        | (go_at_call 9; refine (awake24_calls _ hGa).mono ?_; rintro e wz ⟨rfl, hxz⟩))
      go_ret
      exact ⟨rfl, (hx2.trans hx2a (fun _ _ e => e)).trans hxz (fun _ _ e => e)⟩
    · obtain ⟨h1, h2, h3, hgd⟩ := h
      obtain rfl : er = 3 := by rw [← hgo.out, if_neg hgd]
      have t1 : ((M : Int) == (rnW J : Int)) = false := by rw [beq_eq_false_iff_ne]; omega
      have t2 : (M == rnW J) = false := by rw [beq_eq_false_iff_ne]; omega
      rw [h2] at r3
      have t3 : decide ((rnW J : Int) < (M : Int)) = false := by simp; omega
      have t4 : decide (rnW J < M) = false := by simp; omega
      clear hgo hgd
      replace h1 := Lib.hid h1
      go_wp2_with (first
        | (go_at_call 9; refine (awake24_calls _ hGa).mono ?_; rintro e wz ⟨rfl, hxz⟩))
      go_ret
      exact ⟨rfl, (hx2.trans hx2a (fun _ _ e => e)).trans hxz (fun _ _ e => e)⟩
  · have p2' : w6.cell? ⟨br, 2, none⟩ = some (.bool false) := by rw [p2, hb]
    clear p2 q2
    have hcb2 : Hid (True) := trivial
    clear hcb
    have c6' : w6.cell? ⟨bc, 6, none⟩ = some (.slice Ab c.body.length cb) := c6
    clear c6
    replace hb := Lib.hid hb
    go_wp2_with fail
    refine wp_region_V 99 (fun w' => w'.cell? ⟨br, 1, none⟩ = some (.int .i64 (rnW J : Int)) ∧ w'.cell? ⟨br, 2, none⟩ = some (.bool false) ∧ w'.cell? ⟨bc, 0, none⟩ = some (.int .i64 ((J : Int) + 1)) ∧ w'.cell? ⟨bc, 6, none⟩ = some (.slice Ab c.body.length cb)) (by kernel_rfl) ?_
    try simp only [Act.put, List.setIfInBounds_toArray, List.set_cons_zero, List.set_cons_succ]
    refine wpAnyV_take0 (i := 0) (by kernel_rfl) (by kernel_rfl) (by kernel_rfl) (by kernel_rfl) (by kernel_rfl) ⟨p1, p2', c0, c6'⟩ (fun o ho => ?_)
    conv at ho => rhs; whnf
    subst ho
    refine ⟨?_, fun _ _ _ h => h, Or.inl ⟨by rfl, ?_⟩, ?_⟩
    rotate_left
    · intro w hSw
      try dsimp only at hSw
      try obtain ⟨z1, z2, z3, z4⟩ := hSw
      first | (go_simp; done) | (go_simp; with_reducible rfl)
    try simp only [Act.put, List.setIfInBounds_toArray, List.set_cons_zero, List.set_cons_succ]
    refine wpAnyV_take0 (i := 1) (by kernel_rfl) (by kernel_rfl) (by kernel_rfl) (by kernel_rfl) (by kernel_rfl) ⟨p1, p2', c0, c6'⟩ (fun o ho => ?_)
    conv at ho => rhs; whnf
    subst ho
    refine ⟨?_, fun _ _ _ h => h, Or.inl ⟨by rfl, ?_⟩, ?_⟩
    rotate_left
    · intro w hSw
      try dsimp only at hSw
      try obtain ⟨z1, z2, z3, z4⟩ := hSw
      first | (go_simp; done) | (go_simp; with_reducible rfl)
    try simp only [Act.put, List.setIfInBounds_toArray, List.set_cons_zero, List.set_cons_succ]
    refine wpAnyV_take0 (i := 2) (by kernel_rfl) (by kernel_rfl) (by kernel_rfl) (by kernel_rfl) (by kernel_rfl) ⟨p1, p2', c0, c6'⟩ (fun o ho => ?_)
    conv at ho => rhs; whnf
    subst ho
    refine ⟨?_, fun _ _ _ h => h, Or.inl ⟨by rfl, ?_⟩, ?_⟩
    rotate_left
    · intro w hSw
      try dsimp only at hSw
      try obtain ⟨z1, z2, z3, z4⟩ := hSw
      first | (go_simp; done) | (go_simp; with_reducible rfl)
    try simp only [Act.put, List.setIfInBounds_toArray, List.set_cons_zero, List.set_cons_succ]
    refine wpAnyV_take0 (i := 3) (by kernel_rfl) (by kernel_rfl) (by kernel_rfl) (by kernel_rfl) (by kernel_rfl) ⟨p1, p2', c0, c6'⟩ (fun o ho => ?_)
    conv at ho => rhs; whnf
    subst ho
    refine ⟨?_, fun _ _ _ h => h, Or.inl ⟨by rfl, ?_⟩, ?_⟩
    rotate_left
    · intro w hSw
      try dsimp only at hSw
      try obtain ⟨z1, z2, z3, z4⟩ := hSw
      first | (go_simp; done) | (go_simp; with_reducible rfl)
    try simp only [Act.put, List.setIfInBounds_toArray, List.set_cons_zero, List.set_cons_succ]
    refine wpAnyV_take0 (i := 4) (by kernel_rfl) (by kernel_rfl) (by kernel_rfl) (by kernel_rfl) (by kernel_rfl) ⟨p1, p2', c0, c6'⟩ (fun o ho => ?_)
    conv at ho => rhs; whnf
    subst ho
    refine ⟨?_, fun _ _ _ h => h, Or.inl ⟨by rfl, ?_⟩, ?_⟩
    rotate_left
    · intro w hSw
      try dsimp only at hSw
      try obtain ⟨z1, z2, z3, z4⟩ := hSw
      first | (go_simp; done) | (go_simp; with_reducible rfl)
    try simp only [Act.put, List.setIfInBounds_toArray, List.set_cons_zero, List.set_cons_succ]
    refine wpAnyV_take0 (i := 5) (by kernel_rfl) (by kernel_rfl) (by kernel_rfl) (by kernel_rfl) (by kernel_rfl) ⟨p1, p2', c0, c6'⟩ (fun o ho => ?_)
    conv at ho => rhs; whnf
    subst ho
    refine ⟨?_, fun _ _ _ h => h, Or.inl ⟨by rfl, ?_⟩, ?_⟩
    rotate_left
    · intro w hSw
      try dsimp only at hSw
      try obtain ⟨z1, z2, z3, z4⟩ := hSw
      first | (go_simp; done) | (go_simp; with_reducible rfl)
    try simp only [Act.put, List.setIfInBounds_toArray, List.set_cons_zero, List.set_cons_succ]
    refine wpAnyV_take0 (i := 6) (by kernel_rfl) (by kernel_rfl) (by kernel_rfl) (by kernel_rfl) (by kernel_rfl) ⟨p1, p2', c0, c6'⟩ (fun o ho => ?_)
    conv at ho => rhs; whnf
    subst ho
    refine ⟨?_, fun _ _ _ h => h, Or.inl ⟨by rfl, ?_⟩, ?_⟩
    rotate_left
    · intro w hSw
      try dsimp only at hSw
      try obtain ⟨z1, z2, z3, z4⟩ := hSw
      first | (go_simp; done) | (go_simp; with_reducible rfl)
    try simp only [Act.put, List.setIfInBounds_toArray, List.set_cons_zero, List.set_cons_succ]
    refine wpAnyV_take0 (i := 7) (by kernel_rfl) (by kernel_rfl) (by kernel_rfl) (by kernel_rfl) (by kernel_rfl) ⟨p1, p2', c0, c6'⟩ (fun o ho => ?_)
    conv at ho => rhs; whnf
    subst ho
    refine ⟨?_, fun _ _ _ h => h, Or.inl ⟨by rfl, ?_⟩, ?_⟩
    rotate_left
    · intro w hSw
      try dsimp only at hSw
      try obtain ⟨z1, z2, z3, z4⟩ := hSw
      first | (go_simp; done) | (go_simp; with_reducible rfl)
    try simp only [Act.put, List.setIfInBounds_toArray, List.set_cons_zero, List.set_cons_succ]
    refine wpAnyV_take0 (i := 8) (by kernel_rfl) (by kernel_rfl) (by kernel_rfl) (by kernel_rfl) (by kernel_rfl) ⟨p1, p2', c0, c6'⟩ (fun o ho => ?_)
    conv at ho => rhs; whnf
    subst ho
    refine ⟨?_, fun _ _ _ h => h, Or.inl ⟨by rfl, ?_⟩, ?_⟩
    rotate_left
    · intro w hSw
      try dsimp only at hSw
      try obtain ⟨z1, z2, z3, z4⟩ := hSw
      first | (go_simp; done) | (go_simp; with_reducible rfl)
    try simp only [Act.put, List.setIfInBounds_toArray, List.set_cons_zero, List.set_cons_succ]
    refine wpAnyV_take0 (i := 9) (by kernel_rfl) (by kernel_rfl) (by kernel_rfl) (by kernel_rfl) (by kernel_rfl) ⟨p1, p2', c0, c6'⟩ (fun o ho => ?_)
    conv at ho => rhs; whnf
    subst ho
    refine ⟨?_, fun _ _ _ h => h, Or.inl ⟨by rfl, ?_⟩, ?_⟩
    rotate_left
    · intro w hSw
      try dsimp only at hSw
      try obtain ⟨z1, z2, z3, z4⟩ := hSw
      first | (go_simp; done) | (go_simp; with_reducible rfl)
    try simp only [Act.put, List.setIfInBounds_toArray, List.set_cons_zero, List.set_cons_succ]
    refine wpAnyV_take0 (i := 10) (by kernel_rfl) (by kernel_rfl) (by kernel_rfl) (by kernel_rfl) (by kernel_rfl) ⟨p1, p2', c0, c6'⟩ (fun o ho => ?_)
    conv at ho => rhs; whnf
    subst ho
    refine ⟨?_, fun _ _ _ h => h, Or.inl ⟨by rfl, ?_⟩, ?_⟩
    rotate_left
    · intro w hSw
      try dsimp only at hSw
      try obtain ⟨z1, z2, z3, z4⟩ := hSw
      first | (go_simp; done) | (go_simp; with_reducible rfl)
    try simp only [Act.put, List.setIfInBounds_toArray, List.set_cons_zero, List.set_cons_succ]
    refine wpAnyV_one (i := 11) (by kernel_rfl) (by kernel_rfl) (fun o ho K hK => ?_)
    conv at ho => rhs; whnf
    subst ho
    go_simp
    with_reducible refine hl6.out.mono ?_
    rintro e w7 ⟨rfl, hx7⟩
    have y1 := hx7.cell p1 nb
    have y2 := hx7.cell p2' nb
    have y3 := hx7.cell c0 nb
    have y4 := hx7.cell c6' nb
    go_simp
    refine hK.out _ _ (Or.inr ⟨y1, y2, y3, y4⟩) ?_
    clear hK K
    try simp only [Act.put, List.setIfInBounds_toArray, List.set_cons_zero, List.set_cons_succ]
    refine wpAnyV_take0 (i := 12) (by kernel_rfl) (by kernel_rfl) (by kernel_rfl) (by kernel_rfl) (by kernel_rfl) ⟨y1, y2, y3, y4⟩ (fun o ho => ?_)
    conv at ho => rhs; whnf
    subst ho
    refine ⟨?_, fun _ _ _ h => h, Or.inl ⟨by rfl, ?_⟩, ?_⟩
    rotate_left
    · intro w hSw
      try dsimp only at hSw
      try obtain ⟨z1, z2, z3, z4⟩ := hSw
      first | (go_simp; done) | (go_simp; with_reducible rfl)
    try simp only [Act.put, List.setIfInBounds_toArray, List.set_cons_zero, List.set_cons_succ]
    refine wpAnyV_take0 (i := 13) (by kernel_rfl) (by kernel_rfl) (by kernel_rfl) (by kernel_rfl) (by kernel_rfl) ⟨y1, y2, y3, y4⟩ (fun o ho => ?_)
    conv at ho => rhs; whnf
    subst ho
    refine ⟨?_, fun _ _ _ h => h, Or.inl ⟨by rfl, ?_⟩, ?_⟩
    rotate_left
    · intro w hSw
      try dsimp only at hSw
      try obtain ⟨z1, z2, z3, z4⟩ := hSw
      first | (go_simp; done) | (go_simp; with_reducible rfl)
    try simp only [Act.put, List.setIfInBounds_toArray, List.set_cons_zero, List.set_cons_succ]
    refine wpAnyV_take0 (i := 14) (by kernel_rfl) (by kernel_rfl) (by kernel_rfl) (by kernel_rfl) (by kernel_rfl) ⟨y1, y2, y3, y4⟩ (fun o ho => ?_)
    conv at ho => rhs; whnf
    subst ho
    refine ⟨?_, fun _ _ _ h => h, Or.inl ⟨by rfl, ?_⟩, ?_⟩
    rotate_left
    · intro w hSw
      try dsimp only at hSw
      try obtain ⟨z1, z2, z3, z4⟩ := hSw
      first | (go_simp; done) | (go_simp; with_reducible rfl)
    try simp only [Act.put, List.setIfInBounds_toArray, List.set_cons_zero, List.set_cons_succ]
    refine wpAnyV_take0 (i := 15) (by kernel_rfl) (by kernel_rfl) (by kernel_rfl) (by kernel_rfl) (by kernel_rfl) ⟨y1, y2, y3, y4⟩ (fun o ho => ?_)
    conv at ho => rhs; whnf
    subst ho
    refine ⟨?_, fun _ _ _ h => h, Or.inl ⟨by rfl, ?_⟩, ?_⟩
    rotate_left
    · intro w hSw
      try dsimp only at hSw
      try obtain ⟨z1, z2, z3, z4⟩ := hSw
      first | (go_simp; done) | (go_simp; with_reducible rfl)
    try simp only [Act.put, List.setIfInBounds_toArray, List.set_cons_zero, List.set_cons_succ]
    refine wpAnyV_take0 (i := 16) (by kernel_rfl) (by kernel_rfl) (by kernel_rfl) (by kernel_rfl) (by kernel_rfl) ⟨y1, y2, y3, y4⟩ (fun o ho => ?_)
    conv at ho => rhs; whnf
    subst ho
    refine ⟨?_, fun _ _ _ h => h, Or.inl ⟨by rfl, ?_⟩, ?_⟩
    rotate_left
    · intro w hSw
      try dsimp only at hSw
      try obtain ⟨z1, z2, z3, z4⟩ := hSw
      first | (go_simp; done) | (go_simp; with_reducible rfl)
    try simp only [Act.put, List.setIfInBounds_toArray, List.set_cons_zero, List.set_cons_succ]
    refine wpAnyV_take0 (i := 17) (by kernel_rfl) (by kernel_rfl) (by kernel_rfl) (by kernel_rfl) (by kernel_rfl) ⟨y1, y2, y3, y4⟩ (fun o ho => ?_)
    conv at ho => rhs; whnf
    subst ho
    refine ⟨?_, fun _ _ _ h => h, Or.inl ⟨by rfl, ?_⟩, ?_⟩
    rotate_left
    · intro w hSw
      try dsimp only at hSw
      try obtain ⟨z1, z2, z3, z4⟩ := hSw
      first | (go_simp; done) | (go_simp; with_reducible rfl)
    try simp only [Act.put, List.setIfInBounds_toArray, List.set_cons_zero, List.set_cons_succ]
    refine wpAnyV_take0 (i := 18) (by kernel_rfl) (by kernel_rfl) (by kernel_rfl) (by kernel_rfl) (by kernel_rfl) ⟨y1, y2, y3, y4⟩ (fun o ho => ?_)
    conv at ho => rhs; whnf
    subst ho
    refine ⟨?_, fun _ _ _ h => h, Or.inl ⟨by rfl, ?_⟩, ?_⟩
    rotate_left
    · intro w hSw
      try dsimp only at hSw
      try obtain ⟨z1, z2, z3, z4⟩ := hSw
      first | (go_simp; done) | (go_simp; with_reducible rfl)
    try simp only [Act.put, List.setIfInBounds_toArray, List.set_cons_zero, List.set_cons_succ]
    refine wpAnyV_take0 (i := 19) (by kernel_rfl) (by kernel_rfl) (by kernel_rfl) (by kernel_rfl) (by kernel_rfl) ⟨y1, y2, y3, y4⟩ (fun o ho => ?_)
    conv at ho => rhs; whnf
    subst ho
    refine ⟨?_, fun _ _ _ h => h, Or.inl ⟨by rfl, ?_⟩, ?_⟩
    rotate_left
    · intro w hSw
      try dsimp only at hSw
      try obtain ⟨z1, z2, z3, z4⟩ := hSw
      first | (go_simp; done) | (go_simp; with_reducible rfl)
    try simp only [Act.put, List.setIfInBounds_toArray, List.set_cons_zero, List.set_cons_succ]
    refine wpAnyV_take0 (i := 20) (by kernel_rfl) (by kernel_rfl) (by kernel_rfl) (by kernel_rfl) (by kernel_rfl) ⟨y1, y2, y3, y4⟩ (fun o ho => ?_)
    conv at ho => rhs; whnf
    subst ho
    refine ⟨?_, fun _ _ _ h => h, Or.inl ⟨by rfl, ?_⟩, ?_⟩
    rotate_left
    · intro w hSw
      try dsimp only at hSw
      try obtain ⟨z1, z2, z3, z4⟩ := hSw
      first | (go_simp; done) | (go_simp; with_reducible rfl)
    try simp only [Act.put, List.setIfInBounds_toArray, List.set_cons_zero, List.set_cons_succ]
    refine wpAnyV_take0 (i := 21) (by kernel_rfl) (by kernel_rfl) (by kernel_rfl) (by kernel_rfl) (by kernel_rfl) ⟨y1, y2, y3, y4⟩ (fun o ho => ?_)
    conv at ho => rhs; whnf
    subst ho
    refine ⟨?_, fun _ _ _ h => h, Or.inl ⟨by rfl, ?_⟩, ?_⟩
    rotate_left
    · intro w hSw
      try dsimp only at hSw
      try obtain ⟨z1, z2, z3, z4⟩ := hSw
      first | (go_simp; done) | (go_simp; with_reducible rfl)
    try simp only [Act.put, List.setIfInBounds_toArray, List.set_cons_zero, List.set_cons_succ]
    refine wpAnyV_take0 (i := 22) (by kernel_rfl) (by kernel_rfl) (by kernel_rfl) (by kernel_rfl) (by kernel_rfl) ⟨y1, y2, y3, y4⟩ (fun o ho => ?_)
    conv at ho => rhs; whnf
    subst ho
    refine ⟨?_, fun _ _ _ h => h, Or.inl ⟨by rfl, ?_⟩, ?_⟩
    rotate_left
    · intro w hSw
      try dsimp only at hSw
      try obtain ⟨z1, z2, z3, z4⟩ := hSw
      first | (go_simp; done) | (go_simp; with_reducible rfl)
    try simp only [Act.put, List.setIfInBounds_toArray, List.set_cons_zero, List.set_cons_succ]
    refine wpAnyV_take0 (i := 23) (by kernel_rfl) (by kernel_rfl) (by kernel_rfl) (by kernel_rfl) (by kernel_rfl) ⟨y1, y2, y3, y4⟩ (fun o ho => ?_)
    conv at ho => rhs; whnf
    subst ho
    refine ⟨?_, fun _ _ _ h => h, Or.inl ⟨by rfl, ?_⟩, ?_⟩
    rotate_left
    · intro w hSw
      try dsimp only at hSw
      try obtain ⟨z1, z2, z3, z4⟩ := hSw
      first | (go_simp; done) | (go_simp; with_reducible rfl)
    try simp only [Act.put, List.setIfInBounds_toArray, List.set_cons_zero, List.set_cons_succ]
    refine wpAnyV_take0 (i := 24) (by kernel_rfl) (by kernel_rfl) (by kernel_rfl) (by kernel_rfl) (by kernel_rfl) ⟨y1, y2, y3, y4⟩ (fun o ho => ?_)
    conv at ho => rhs; whnf
    subst ho
    refine ⟨?_, fun _ _ _ h => h, Or.inl ⟨by rfl, ?_⟩, ?_⟩
    rotate_left
    · intro w hSw
      try dsimp only at hSw
      try obtain ⟨z1, z2, z3, z4⟩ := hSw
      first | (go_simp; done) | (go_simp; with_reducible rfl)
    try simp only [Act.put, List.setIfInBounds_toArray, List.set_cons_zero, List.set_cons_succ]
    refine wpAnyV_take0 (i := 25) (by kernel_rfl) (by kernel_rfl) (by kernel_rfl) (by kernel_rfl) (by kernel_rfl) ⟨y1, y2, y3, y4⟩ (fun o ho => ?_)
    conv at ho => rhs; whnf
    subst ho
    refine ⟨?_, fun _ _ _ h => h, Or.inl ⟨by rfl, ?_⟩, ?_⟩
    rotate_left
    · intro w hSw
      try dsimp only at hSw
      try obtain ⟨z1, z2, z3, z4⟩ := hSw
      first | (go_simp; done) | (go_simp; with_reducible rfl)
    try simp only [Act.put, List.setIfInBounds_toArray, List.set_cons_zero, List.set_cons_succ]
    refine wpAnyV_take0 (i := 26) (by kernel_rfl) (by kernel_rfl) (by kernel_rfl) (by kernel_rfl) (by kernel_rfl) ⟨y1, y2, y3, y4⟩ (fun o ho => ?_)
    conv at ho => rhs; whnf
    subst ho
    refine ⟨?_, fun _ _ _ h => h, Or.inl ⟨by rfl, ?_⟩, ?_⟩
    rotate_left
    · intro w hSw
      try dsimp only at hSw
      try obtain ⟨z1, z2, z3, z4⟩ := hSw
      first | (go_simp; done) | (go_simp; with_reducible rfl)
    try simp only [Act.put, List.setIfInBounds_toArray, List.set_cons_zero, List.set_cons_succ]
    refine wpAnyV_take0 (i := 27) (by kernel_rfl) (by kernel_rfl) (by kernel_rfl) (by kernel_rfl) (by kernel_rfl) ⟨y1, y2, y3, y4⟩ (fun o ho => ?_)
    conv at ho => rhs; whnf
    subst ho
    refine ⟨?_, fun _ _ _ h => h, Or.inl ⟨by rfl, ?_⟩, ?_⟩
    rotate_left
    · intro w hSw
      try dsimp only at hSw
      try obtain ⟨z1, z2, z3, z4⟩ := hSw
      first | (go_simp; done) | (go_simp; with_reducible rfl)
    try simp only [Act.put, List.setIfInBounds_toArray, List.set_cons_zero, List.set_cons_succ]
    refine wpAnyV_take0 (i := 28) (by kernel_rfl) (by kernel_rfl) (by kernel_rfl) (by kernel_rfl) (by kernel_rfl) ⟨y1, y2, y3, y4⟩ (fun o ho => ?_)
    conv at ho => rhs; whnf
    subst ho
    refine ⟨?_, fun _ _ _ h => h, Or.inl ⟨by rfl, ?_⟩, ?_⟩
    rotate_left
    · intro w hSw
      try dsimp only at hSw
      try obtain ⟨z1, z2, z3, z4⟩ := hSw
      first | (go_simp; done) | (go_simp; with_reducible rfl)
    try simp only [Act.put, List.setIfInBounds_toArray, List.set_cons_zero, List.set_cons_succ]
    refine wpAnyV_one (i := 29) (by kernel_rfl) (by kernel_rfl) (fun o ho K hK => ?_)
    conv at ho => rhs; whnf
    subst ho
    go_simp
    refine hK.out _ _ (Or.inr ⟨y1, y2, y3, y4⟩) ?_
    clear hK K
    try simp only [Act.put, List.setIfInBounds_toArray, List.set_cons_zero, List.set_cons_succ]
    refine wpAnyV_one (i := 30) (by kernel_rfl) (by kernel_rfl) (fun o ho K hK => ?_)
    conv at ho => rhs; whnf
    subst ho
    go_simp
    refine hK.out _ _ (Or.inr ⟨y1, y2, y3, y4⟩) ?_
    clear hK K
    try simp only [Act.put, List.setIfInBounds_toArray, List.set_cons_zero, List.set_cons_succ]
    refine wpAnyV_one (i := 31) (by kernel_rfl) (by kernel_rfl) (fun o ho K hK => ?_)
    conv at ho => rhs; whnf
    subst ho
    go_simp
    refine hK.out _ _ (Or.inr ⟨y1, y2, y3, y4⟩) ?_
    clear hK K
    try simp only [Act.put, List.setIfInBounds_toArray, List.set_cons_zero, List.set_cons_succ]
    refine wpAnyV_one (i := 32) (by kernel_rfl) (by kernel_rfl) (fun o ho K hK => ?_)
    conv at ho => rhs; whnf
    subst ho
    go_simp
    refine hK.out _ _ (Or.inr ⟨y1, y2, y3, y4⟩) ?_
    clear hK K
    try simp only [Act.put, List.setIfInBounds_toArray, List.set_cons_zero, List.set_cons_succ]
    refine wpAnyV_take0 (i := 33) (by kernel_rfl) (by kernel_rfl) (by kernel_rfl) (by kernel_rfl) (by kernel_rfl) ⟨y1, y2, y3, y4⟩ (fun o ho => ?_)
    conv at ho => rhs; whnf
    subst ho
    refine ⟨?_, fun _ _ _ h => h, Or.inl ⟨by rfl, ?_⟩, ?_⟩
    rotate_left
    · intro w hSw
      try dsimp only at hSw
      try obtain ⟨z1, z2, z3, z4⟩ := hSw
      first | (go_simp; done) | (go_simp; with_reducible rfl)
    try simp only [Act.put, List.setIfInBounds_toArray, List.set_cons_zero, List.set_cons_succ]
    refine wpAnyV_take0 (i := 34) (by kernel_rfl) (by kernel_rfl) (by kernel_rfl) (by kernel_rfl) (by kernel_rfl) ⟨y1, y2, y3, y4⟩ (fun o ho => ?_)
    conv at ho => rhs; whnf
    subst ho
    refine ⟨?_, fun _ _ _ h => h, Or.inl ⟨by rfl, ?_⟩, ?_⟩
    rotate_left
    · intro w hSw
      try dsimp only at hSw
      try obtain ⟨z1, z2, z3, z4⟩ := hSw
      first | (go_simp; done) | (go_simp; with_reducible rfl)
    try simp only [Act.put, List.setIfInBounds_toArray, List.set_cons_zero, List.set_cons_succ]
    refine wpAnyV_done (by kernel_rfl) ?_ _
    have hx27 : Ext NoB w2 w7 := hx26.drew.trans hx7 (fun _ _ e => e)
    clear hl6
    go_wp2_with fail
    refine (hline.out M (by omega) w7 hx27).mono ?_
    rintro e w8 ⟨rfl, hx8⟩
    have hpm := cmParse_calls (mk (lineW (nmW J) (bdW J) (gW W) M))
    rw [show (mk (lineW (nmW J) (bdW J) (gW W) M)).data.toList = lineW (nmW J) (bdW J) (gW W) M by simp [mk], hw2.out M (by omega)] at hpm
    generalize (cmdV (lineW (nmW J) (bdW J) (gW W) M)).1 = d at *
    generalize mk (lineW (nmW J) (bdW J) (gW W) M) = Sm at *
    have hx28 := hx27.trans hx8 (fun _ _ e => e)
    have hGm := hG.keep (hx2.trans hx28 (fun _ _ e => e))
    clear hline hw2
    generalize hgo : (if goodW J M then (0 : Int) else 3) = er at *
    replace hgo := Lib.hid hgo
    replace hpm := Lib.hid hpm
    go_wp2_with fail
    refine (hpm.out w8 hGm).mono ?_
    rintro e w9 ⟨bv9, pv9, gb9, gp9, rfl, hOb9, hOp9, hgb9, hgp9, hx9⟩
    obtain ⟨Ab9, cb9, bb9, ob9, rfl, hrb9, _⟩ := hOb9.read
    obtain ⟨Ap9, cp9, bp9, op9, rfl, hrp9, _⟩ := hOp9.read
    clear hOb9 hOp9 hgb9 hgp9 hpm hrb9 hrp9
    have hxa : Ext NoB w9 (w9.alloc (.cells #[.int .i64 d.k, .int .i64 d.t, .int .i64 d.p, .int .i64 d.i, .int .u64 d.n, .int .u64 d.m, .slice Ab9 d.body.length cb9, .slice Ap9 d.preds.length cp9] 29)) := (Ext.refl NoB w9).alloc _
    have hx2a := (hx28.trans hx9 (fun _ _ e => e)).trans hxa (fun _ _ e => e)
    have r1 := hx2a.cell q1 nb
    have r3 := hx2a.cell q3 nb
    have hGa := hG.keep (hx2.trans hx2a (fun _ _ e => e))
    rcases hcases.out with h | h | h | h | h
    · obtain ⟨h1, hgd⟩ := h
      obtain rfl : er = 0 := by rw [← hgo.out, if_pos hgd]
      have t1 : ((M : Int) == (rnW J : Int)) = true := by rw [h1]; simp
      have t2 : (M == rnW J) = true := by rw [h1]; simp
      clear hgo hgd
      replace h1 := Lib.hid h1
      go_wp2_with (first
        | (go_at_call 9; refine (awake24_calls _ hGa).mono ?_; rintro e wz ⟨rfl, hxz⟩))
      go_ret
      exact ⟨rfl, (hx2.trans hx2a (fun _ _ e => e)).trans hxz (fun _ _ e => e)⟩
    · obtain ⟨h1, h2, hgd⟩ := h
      obtain rfl : er = 3 := by rw [← hgo.out, if_neg hgd]
      have t1 : ((M : Int) == (rnW J : Int)) = false := by rw [beq_eq_false_iff_ne]; omega
      have t2 : (M == rnW J) = false := by rw [beq_eq_false_iff_ne]; omega
      rw [h2] at r3
      clear hgo hgd
      replace h1 := Lib.hid h1
      go_wp2_with (first
        | (go_at_call 9; refine (awake24_calls _ hGa).mono ?_; rintro e wz ⟨rfl, hxz⟩))
      go_ret
      exact ⟨rfl, (hx2.trans hx2a (fun _ _ e => e)).trans hxz (fun _ _ e => e)⟩
    · obtain ⟨h1, h2, h3, h4, hgd⟩ := h
      obtain rfl : er = 0 := by rw [← hgo.out, if_pos hgd]
      have t1 : ((M : Int) == (rnW J : Int)) = false := by rw [beq_eq_false_iff_ne]; omega
      have t2 : (M == rnW J) = false := by rw [beq_eq_false_iff_ne]; omega
      rw [h2] at r3
      have t3 : decide ((rnW J : Int) < (M : Int)) = true := by simp; omega
      have t4 : decide (rnW J < M) = true := by simp; omega
      have t5 : decide ((M : Int) ≤ (rnW J : Int) + 16) = true := by simp; omega
      have t6 : decide (M ≤ rnW J + 16) = true := by simp; omega
      clear hgo hgd
      replace h1 := Lib.hid h1
      go_wp2_with (first
        | (go_at_call 9; refine (awake24_calls _ hGa).mono ?_; rintro e wz ⟨rfl, hxz⟩))
      go_ret
      exact ⟨rfl, (hx2.trans hx2a (fun _ _ e => e)).trans hxz (fun _ _ e => e)⟩
    · obtain ⟨h1, h2, h3, h4, hgd⟩ := h
      obtain rfl : er = 3 := by rw [← hgo.out, if_neg hgd]
      have t1 : ((M : Int) == (rnW J : Int)) = false := by rw [beq_eq_false_iff_ne]; omega
      have t2 : (M == rnW J) = false := by rw [beq_eq_false_iff_ne]; omega
      rw [h2] at r3
      have t3 : decide ((rnW J : Int) < (M : Int)) = true := by simp; omega
      have t4 : decide (rnW J < M) = true := by simp; omega
      have t5 : decide ((M : Int) ≤ (rnW J : Int) + 16) = false := by simp; omega
      have t6 : decide (M ≤ rnW J + 16) = false := by simp; omega
      clear hgo hgd
      replace h1 := Lib.hid h1
      go_wp2_with (first
        | (go_at_call 9; refine (awake24_calls _ hGa).mono ?_; rintro e wz ⟨rfl, hxz⟩))
      go_ret
      exact ⟨rfl, (hx2.trans hx2a (fun _ _ e => e)).trans hxz (fun _ _ e => e)⟩
    · obtain ⟨h1, h2, h3, hgd⟩ := h
      obtain rfl : er = 3 := by rw [← hgo.out, if_neg hgd]
      have t1 : ((M : Int) == (rnW J : Int)) = false := by rw [beq_eq_false_iff_ne]; omega
      have t2 : (M == rnW J) = false := by rw [beq_eq_false_iff_ne]; omega
      rw [h2] at r3
      have t3 : decide ((rnW J : Int) < (M : Int)) = false := by simp; omega
      have t4 : decide (rnW J < M) = false := by simp; omega
      clear hgo hgd
      replace h1 := Lib.hid h1
      go_wp2_with (first
        | (go_at_call 9; refine (awake24_calls _ hGa).mono ?_; rintro e wz ⟨rfl, hxz⟩))
      go_ret
      exact ⟨rfl, (hx2.trans hx2a (fun _ _ e => e)).trans hxz (fun _ _ e => e)⟩
end Go.Proofs.YtgiimmiandhkhaaDoor
