/- The commands: the reference's Number, at any most up to 18. -/
import Derived.Test.YtgiimmiandhkhaaGreatDoorProg
import Derived.Test.YtgiimmiandhkhaaGreatDoorBoM
namespace Go.Proofs.YtgiimmiandhkhaaGreatDoor
open Go.RowKit
set_option linter.unusedSimpArgs false
set_option linter.unusedVariables false

set_option maxRecDepth 20000 in
set_option maxHeartbeats 4000000 in
theorem numberM_calls (s : ByteArray) (m : Nat) (hm18 : m ≤ 18) (w : World) : Calls Tryz.prog 29 #[.string s, .int .i64 (m : Int)] w fun e w' => e = .returned (.tuple #[.int .u64 (((numV s.data.toList m).getD 0 : Nat) : Int), .bool (numV s.data.toList m).isSome]) ∧ Ext NoB w w' := by
  have hsz : s.data.toList.length = s.size := by rw [Array.length_toList]; rfl
  by_cases h0 : s.data.toList = []
  · have hse : s = ⟨#[]⟩ := by apply ByteArray.ext; apply Array.toList_inj.1; exact h0
    have hv : Hid (numV s.data.toList m = none) := by show _ = _; unfold numV; rw [if_pos (.inl h0)]
    have t0 : (s.toList == []) = true := by rw [hse]; simp
    go_enter Tryz.func29, Tryz.ntmps29
    go_wp2_with fail
    go_ret2
    exact ⟨by rw [hv.out]; rfl, Ext.refl _ _⟩
  · have t0 : (s.toList == []) = false := by rw [ByteArray.toList_eq, beq_eq_false_iff_ne]; exact h0
    by_cases h9 : m < s.size
    · have t1 : decide (m < s.size) = true := by simp [h9]
      have t1' : decide ((m : Int) < (s.size : Int)) = true := by simp; omega
      have hv : Hid (numV s.data.toList m = none) := by show _ = _; unfold numV; rw [if_pos (.inr (.inl (by omega)))]
      go_enter Tryz.func29, Tryz.ntmps29
      go_wp2_with fail
      go_ret2
      exact ⟨by rw [hv.out]; rfl, Ext.refl _ _⟩
    · have t1 : decide (m < s.size) = false := by simp; omega
      have t1' : decide ((m : Int) < (s.size : Int)) = false := by simp; omega
      have h1 : 0 < s.size := by
        refine Classical.byContradiction fun h => h0 ?_
        exact List.eq_nil_of_length_eq_zero (by omega)
      have hl1 : 0 < s.data.toList.length := by omega
      have hcons : s.data.toList = s[0] :: s.data.toList.drop 1 := by
        have := List.drop_eq_getElem_cons hl1
        rw [List.drop_zero] at this
        exact this
      by_cases h48 : ((s[0].toNat : Nat) : Int) = 48
      · have h48' : s[0] = 48 := UInt8.toNat_inj.1 (by show s[0].toNat = 48; omega)
        by_cases hone : s.data.toList = [48]
        · have hv : Hid (numV s.data.toList m = if s.data.toList.all digB then some (valL s.data.toList) else none) := by
            show _ = _
            unfold numV
            rw [if_neg]
            rintro (e | e | ⟨_, e⟩)
            · exact h0 e
            · omega
            · exact e hone
          have u1 : (!s.toList == [48]) = false := by rw [ByteArray.toList_eq, hone]; rfl
          have u2 : (s.toList == [48]) = true := by rw [ByteArray.toList_eq, hone]; rfl
          clear hcons hone h48'
          go_enter Tryz.func29, Tryz.ntmps29
          go_wp2_with fail
          go_loopw [6, 7] (fun n i wr => ∃ k : Nat, k ≤ s.size ∧ i = .int .i64 k ∧ n = .int .u64 ((valL (s.data.toList.take k) : Nat) : Int) ∧ Hid ((s.data.toList.take k).all digB = true) ∧ Ext NoB w wr) (fun _ i _ => s.size - (intOf i).toNat)
          case atStart => exact ⟨0, Nat.zero_le _, rfl, rfl, rfl, Ext.refl _ _⟩
          case round =>
            obtain ⟨k, hk, rfl, rfl, hall, hext⟩ := hrel
            by_cases hlt : k < s.size
            · have t2 : decide (k < s.size) = true := by simp [hlt]
              have hlt' : k < s.data.toList.length := by omega
              have htk : Hid (s.data.toList.take (k + 1) = s.data.toList.take k ++ [s[k]]) := List.take_succ_eq_append_getElem hlt'
              have hbad : Hid (digB s[k] = false → numV s.data.toList m = none) := fun h => by
                rw [hv.out, if_neg]
                intro hc
                have := List.all_eq_true.1 hc s[k] (List.getElem_mem (l := s.data.toList) hlt')
                rw [h] at this
                cases this
              have hlt9 := valL_lt _ hall.out
              rw [List.length_take] at hlt9
              have hvb : valL (s.data.toList.take k) < 1000000000000000000 := Nat.lt_of_lt_of_le hlt9 (Nat.pow_le_pow_right (by decide) (show min k s.data.toList.length ≤ 18 by omega))
              clear hlt9
              generalize hvn : valL (s.data.toList.take k) = vn at *
              have hvn' := Lib.hid hvn
              clear hvn
              go_wp2_with fail
              · go_ret2
                have hd : digB s[k] = false := by simp [digB]; omega
                exact ⟨by rw [hbad.out hd]; rfl, hext⟩
              · have hd : digB s[k] = true := by simp [digB]; omega
                refine ⟨⟨k + 1, by omega, by go_num, ?_, by show _ = _; rw [htk.out, List.all_append, hall.out]; simp [hd], hext⟩, by simp [intOf]; omega⟩
                rw [htk.out, valL_snoc, hvn'.out]
                congr 1
                omega
              · go_ret2
                have hd : digB s[k] = false := by simp [digB]; omega
                exact ⟨by rw [hbad.out hd]; rfl, hext⟩
            · have t2 : decide (k < s.size) = false := by simp [hlt]
              obtain rfl : k = s.size := by omega
              have hfull : s.data.toList.take s.size = s.data.toList := List.take_of_length_le (by omega)
              have hall2 : s.data.toList.all digB = true := by have := hall.out; rw [hfull] at this; exact this
              have hres : Hid (numV s.data.toList m = some (valL s.data.toList)) := by show _ = _; rw [hv.out, if_pos hall2]
              rw [hfull]
              clear hall2
              go_wp2_with fail
              go_ret2
              exact ⟨by rw [hres.out]; rfl, hext⟩
        · have hv : Hid (numV s.data.toList m = none) := by
            show _ = _
            unfold numV
            rw [if_pos (.inr (.inr ⟨by rw [hcons, h48']; rfl, hone⟩))]
          have u1 : (!s.toList == [48]) = true := by rw [ByteArray.toList_eq]; simpa using hone
          have u2 : (s.toList == [48]) = false := by rw [ByteArray.toList_eq, beq_eq_false_iff_ne]; exact hone
          clear hcons
          go_enter Tryz.func29, Tryz.ntmps29
          go_wp2_with fail
          go_ret2
          exact ⟨by rw [hv.out]; rfl, Ext.refl _ _⟩
      · have hv : Hid (numV s.data.toList m = if s.data.toList.all digB then some (valL s.data.toList) else none) := by
          show _ = _
          unfold numV
          rw [if_neg]
          rintro (e | e | ⟨e, _⟩)
          · exact h0 e
          · omega
          · rw [hcons] at e
            have : s[0] = 48 := Option.some.inj e
            exact h48 (by rw [this]; rfl)
        clear hcons
        go_enter Tryz.func29, Tryz.ntmps29
        go_wp2_with fail
        go_loopw [6, 7] (fun n i wr => ∃ k : Nat, k ≤ s.size ∧ i = .int .i64 k ∧ n = .int .u64 ((valL (s.data.toList.take k) : Nat) : Int) ∧ Hid ((s.data.toList.take k).all digB = true) ∧ Ext NoB w wr) (fun _ i _ => s.size - (intOf i).toNat)
        case atStart => exact ⟨0, Nat.zero_le _, rfl, rfl, rfl, Ext.refl _ _⟩
        case round =>
          obtain ⟨k, hk, rfl, rfl, hall, hext⟩ := hrel
          by_cases hlt : k < s.size
          · have t2 : decide (k < s.size) = true := by simp [hlt]
            have hlt' : k < s.data.toList.length := by omega
            have htk : Hid (s.data.toList.take (k + 1) = s.data.toList.take k ++ [s[k]]) := List.take_succ_eq_append_getElem hlt'
            have hbad : Hid (digB s[k] = false → numV s.data.toList m = none) := fun h => by
              rw [hv.out, if_neg]
              intro hc
              have := List.all_eq_true.1 hc s[k] (List.getElem_mem (l := s.data.toList) hlt')
              rw [h] at this
              cases this
            have hlt9 := valL_lt _ hall.out
            rw [List.length_take] at hlt9
            have hvb : valL (s.data.toList.take k) < 1000000000000000000 := Nat.lt_of_lt_of_le hlt9 (Nat.pow_le_pow_right (by decide) (show min k s.data.toList.length ≤ 18 by omega))
            clear hlt9
            generalize hvn : valL (s.data.toList.take k) = vn at *
            have hvn' := Lib.hid hvn
            clear hvn
            go_wp2_with fail
            · go_ret2
              have hd : digB s[k] = false := by simp [digB]; omega
              exact ⟨by rw [hbad.out hd]; rfl, hext⟩
            · have hd : digB s[k] = true := by simp [digB]; omega
              refine ⟨⟨k + 1, by omega, by go_num, ?_, by show _ = _; rw [htk.out, List.all_append, hall.out]; simp [hd], hext⟩, by simp [intOf]; omega⟩
              rw [htk.out, valL_snoc, hvn'.out]
              congr 1
              omega
            · go_ret2
              have hd : digB s[k] = false := by simp [digB]; omega
              exact ⟨by rw [hbad.out hd]; rfl, hext⟩
          · have t2 : decide (k < s.size) = false := by simp [hlt]
            obtain rfl : k = s.size := by omega
            have hfull : s.data.toList.take s.size = s.data.toList := List.take_of_length_le (by omega)
            have hall2 : s.data.toList.all digB = true := by have := hall.out; rw [hfull] at this; exact this
            have hres : Hid (numV s.data.toList m = some (valL s.data.toList)) := by show _ = _; rw [hv.out, if_pos hall2]
            rw [hfull]
            clear hall2
            go_wp2_with fail
            go_ret2
            exact ⟨by rw [hres.out]; rfl, hext⟩
end Go.Proofs.YtgiimmiandhkhaaGreatDoor
