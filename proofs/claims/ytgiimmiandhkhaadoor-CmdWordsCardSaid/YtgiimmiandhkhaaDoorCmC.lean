/- The commands: FormatUint, and a word's number. -/
import Derived.Test.YtgiimmiandhkhaaDoorProg
import Derived.Test.YtgiimmiandhkhaaDoorCmB
import Derived.Lib.AppendIntMem
import Derived.BigCall
import Derived.BigGuard
namespace Go.Proofs.YtgiimmiandhkhaaDoor
open Go.RowKit
set_option linter.unusedSimpArgs false
set_option linter.unusedVariables false

set_option maxHeartbeats 6400000 in
set_option maxRecDepth 100000 in
theorem fmtI_calls (u : Nat) (hu64 : u < 18446744073709551616) (w : World) (hG : Gl w) :
    Calls Tryd.prog 50 #[.int .u64 (u : Int), .int .i64 10] w fun e w' => e = .returned (.string (mk (Lib.decDigits u))) ∧ Ext NoB w w' := by
  by_cases hs : u < 100
  · have t0 : decide (u < 100) = true := by simp [hs]
    have t0' : decide ((u : Int) < 100) = true := by simp; omega
    have hw := Lib.hid (Tryd.internal_strconv_small u hs w)
    go_enter Tryd.func50, Tryd.ntmps50
    go_wp2_with (go_at_call 66; (with_reducible refine hw.out.mono ?_); rintro e w' ⟨rfl, rfl⟩)
    go_ret
    exact ⟨rfl, Ext.refl _ _⟩
  · have t0 : decide (u < 100) = false := by simp; omega
    have t0' : decide ((u : Int) < 100) = false := by simp; omega
    have hu1 : 1 ≤ u := by omega
    have hnd20 : Lib.nDigits u ≤ 20 := by have := Lib.numDigits_eq u hu1 hu64; split at this <;> omega
    have hal : Tryd.prog.arrayLen 106 = 24 := by kernel_rfl
    have hsl1 : ∀ W, (Instr.sliceAt 106 (.pointer (some ⟨w.heap.size, 0, none⟩)) none (some (.int .i64 (Lib.nDigits u : Int))) none).run Tryd.prog W = .ok (.slice (some ⟨w.heap.size, 0, none⟩) (Lib.nDigits u) 24) W := fun W => by
      rw [run_sliceAt_array_h W 106 ⟨w.heap.size, 0, none⟩ (by kernel_rfl) .i64 (Lib.nDigits u : Int) (by omega) (by rw [hal]; omega)]
      go_simp
    have hH0 := Lib.holds_zero0 w 106 (Lib.nDigits u) (by omega)
    have hfmt := Tryd.internal_strconv_formatBase10 w.heap.size 0 24 u (Array.replicate (Lib.nDigits u) 0) (w.alloc (.cells Lib.zeros24 106)) hH0 (by rw [Array.size_replicate]; exact Lib.lt_pow_nDigits u) hu64 (by rw [Array.size_replicate]; omega)
    rw [Array.size_replicate] at hfmt
    have HH0 := Lib.hid hH0
    have hnd := Lib.hid (Tryd.internal_strconv_numDigits u hu1 hu64 (w.alloc (.cells Lib.zeros24 106)) (Lib.tabIs_alloc hG.tab _))
    have hfmt' := Lib.hid hfmt
    clear hH0 hal hfmt hu1 t0'
    go_enter Tryd.func50, Tryd.ntmps50
    go_wp2_with (first
      | (go_at_call 67; refine hnd.out.mono ?_; rintro e w' ⟨rfl, rfl⟩))
    refine hfmt'.out.mono ?_
    rintro e w' ⟨rfl, k, v', dk, rfl, hF⟩
    have hcv : (convert 71 9 (.slice (some ⟨w.heap.size, 0, none⟩) (Lib.nDigits u) 24)).run Tryd.prog ((Go.Sort.putRow (fun (b : UInt8) => Value.int .u8 (b.toNat : Int)) (w.alloc (.cells Lib.zeros24 106)) w.heap.size 0 dk).drewN k) = .ok (.string ⟨(Lib.decDigits u).toArray⟩) ((Go.Sort.putRow (fun (b : UInt8) => Value.int .u8 (b.toNat : Int)) (w.alloc (.cells Lib.zeros24 106)) w.heap.size 0 dk).drewN k) := by
      have h := run_convert_bytes_back (P := Tryd.prog) ((Go.Sort.putRow (fun (b : UInt8) => Value.int .u8 (b.toNat : Int)) (w.alloc (.cells Lib.zeros24 106)) w.heap.size 0 dk).drewN k) 71 9 5 ⟨w.heap.size, 0, none⟩ 24 (Lib.decDigits u) Tryd.underlying71 Tryd.underlying5 Tryd.underlying9 (fun j hj => by
        rw [Lib.row_is_numeral hF j hj, Lib.add_plain, World.cell?_drewN]
        exact Go.Sort.cell?_putRow (fun (b : UInt8) => Value.int .u8 (b.toNat : Int)) _ w.heap.size 0 _ dk HH0.out (by rw [hF.size, Array.size_replicate]) j (by rw [hF.size]; rw [Lib.decDigits_length] at hj; exact hj))
      rw [Lib.decDigits_length] at h
      exact h
    go_wp2
    go_ret
    obtain ⟨os, eo⟩ := Lib.fin_at w (.cells Lib.zeros24 106) dk k 0
    exact ⟨rfl, by rw [eo]; exact ext_grow w k os⟩
theorem fmtU_calls (u : Nat) (hu64 : u < 18446744073709551616) (w : World) (hG : Gl w) :
    Calls Tryd.prog 34 #[.int .u64 (u : Int), .int .i64 10] w fun e w' => e = .returned (.string (mk (Lib.decDigits u))) ∧ Ext NoB w w' := by
  have hf := Lib.hid (fmtI_calls u hu64 w hG)
  go_enter Tryd.func34, Tryd.ntmps34
  go_wp2_with fail
  refine hf.out.mono ?_
  rintro e w' ⟨rfl, hx⟩
  generalize hS : mk (Lib.decDigits u) = S at *
  have hS' := Lib.hid hS
  clear hS hf
  go_wp2_with fail
  go_ret
  exact ⟨by rw [hS'.out]; rfl, hx⟩

theorem parseU_calls (s : ByteArray) (hs : s.size ≤ 281474976710656) (w : World) (hG : Gl w) :
    Calls Tryd.prog 49 #[.string s, .int .i64 10, .int .i64 64] w fun e w' => ∃ (n : Nat) (ev : Value), e = .returned (.tuple #[.int .u64 (n : Int), ev]) ∧ n < 18446744073709551616 ∧ ((ev = .nilIface ∧ Lib.parseMag s.data.toList = .ok n) ∨ ((∃ te pe, ev = .iface te pe) ∧ ∀ v, Lib.parseMag s.data.toList ≠ .ok v)) ∧ Ext NoB w w' := by
  obtain ⟨es, hes, hes'⟩ := hG.syn
  obtain ⟨er, her, her'⟩ := hG.rng
  have he := Lib.parseUintB_64 s.data.toList
  cases h : Lib.parseMag s.data.toList with
  | ok v =>
    refine (Tryd.strconv_ParseUint_10_at64_ok s (by omega) v (by rw [he, h]) w).mono ?_
    rintro e w' ⟨rfl, hw⟩
    refine ⟨v, _, rfl, Lib.parseMag_lt h, .inl ⟨rfl, rfl⟩, ?_⟩
    rcases hw with rfl | rfl
    · exact Ext.refl _ _
    · exact bytes_ext w _ s
  | «syntax» =>
    refine (Tryd.strconv_ParseUint_10_at64_syntax s hs (by rw [he, h]) es w hes hes').mono ?_
    rintro e w' ⟨N, rfl, _, _, hb⟩
    exact ⟨0, _, rfl, by omega, .inr ⟨⟨_, _, rfl⟩, fun v hv => by cases hv⟩, Ext.of_below hb⟩
  | range =>
    refine (Tryd.strconv_ParseUint_10_at64_range s hs (by rw [he, h]) er w her her').mono ?_
    rintro e w' ⟨N, rfl, _, _, hb⟩
    exact ⟨18446744073709551615, _, rfl, by omega, .inr ⟨⟨_, _, rfl⟩, fun v hv => by cases hv⟩, Ext.of_below hb⟩

/-- A word's number, by Go's library. -/
theorem numV_lib (l : List UInt8) (m : Nat) (hm : m ≤ 18) : (∀ v, numV l m = some v → Lib.parseMag l = .ok v ∧ l.length ≤ m ∧ Lib.decDigits v = l) ∧ (∀ v, l.length ≤ m → Lib.decDigits v = l → numV l m = some v) := by
  refine ⟨fun v h => ?_, fun v h1 h2 => ?_⟩
  · obtain ⟨e1, e2, e3, e4⟩ := numV_some h
    have hv := numV_wide h
    have h18 : v < 1000000000000000000 := Nat.lt_of_lt_of_le hv (Nat.pow_le_pow_right (by decide) hm)
    refine ⟨?_, e3, e1⟩
    unfold Lib.parseMag
    rw [if_neg (fun e => dec_ne v (by rw [e1]; exact e))]
    have := parse_dec v h18
    rw [e1] at this
    exact this
  · rw [← h2]
    exact numV_dec v m (by rw [h2]; exact h1)

set_option maxHeartbeats 4000000 in
theorem number_calls (s : ByteArray) (m : Nat) (hm : m ≤ 18) (hs : s.size ≤ 1000000) (w : World) (hG : Gl w) :
    Calls Tryd.prog 33 #[.string s, .int .i64 (m : Int)] w fun e w' => ∃ n : Nat, e = .returned (.tuple #[.int .u64 (n : Int), .bool (numV s.data.toList m).isSome]) ∧ n < 18446744073709551616 ∧ (∀ v, numV s.data.toList m = some v → n = v) ∧ Ext NoB w w' := by
  have hsz : s.data.toList.length = s.size := by rw [Array.length_toList]; rfl
  obtain ⟨L1, L2⟩ := numV_lib s.data.toList m hm
  have L1 := Lib.hid L1
  have L2 := Lib.hid L2
  go_enter Tryd.func33, Tryd.ntmps33
  go_wp2_with fail
  refine (parseU_calls s (by omega) w hG).mono ?_
  rintro e w1 ⟨n, ev, rfl, hn, hev, hx1⟩
  rcases hev with ⟨rfl, hp⟩ | ⟨⟨te, pe, rfl⟩, hp⟩
  · have hp := Lib.hid hp
    by_cases hle : s.size ≤ m
    · have t0 : decide (s.size ≤ m) = true := by simp [hle]
      have t0' : decide ((s.size : Int) ≤ (m : Int)) = true := by simp; omega
      go_wp2_with fail
      refine (fmtU_calls n hn w1 (hG.keep hx1)).mono ?_
      rintro e w2 ⟨rfl, hx2⟩
      have hx := hx1.trans hx2 (fun _ _ e => e)
      by_cases hd : Lib.decDigits n = s.data.toList
      · have hv := Lib.hid (L2.out n (by omega) hd)
        have hS : mk (Lib.decDigits n) = s := by rw [hd]; exact mk_data s
        rw [hS]
        have u1 : (s.toList == s.toList) = true := by simp
        go_wp2_with fail
        go_ret2
        refine ⟨n, by rw [hv.out]; rfl, hn, fun v h => ?_, hx⟩
        rw [hv.out] at h
        exact Option.some.inj h
      · have hv : Hid (numV s.data.toList m = none) := by
          show _ = _
          cases hq : numV s.data.toList m with
          | none => rfl
          | some v =>
            obtain ⟨q1, q2, q3⟩ := L1.out v hq
            rw [hp.out] at q1
            simp only [Lib.NumEnd.ok.injEq] at q1
            exact absurd (by rw [q1]; exact q3) hd
        have hne : mk (Lib.decDigits n) ≠ s := fun e => hd (by rw [← e]; simp [mk])
        have u1 := str_ne_toList hne
        generalize mk (Lib.decDigits n) = S at *
        clear hd
        go_wp2_with fail
        go_ret2
        exact ⟨n, by rw [hv.out]; rfl, hn, (fun v h => by rw [hv.out] at h; cases h), hx⟩
    · have t0 : decide (s.size ≤ m) = false := by simp; omega
      have t0' : decide ((s.size : Int) ≤ (m : Int)) = false := by simp; omega
      have hv : Hid (numV s.data.toList m = none) := by
        show _ = _
        cases hq : numV s.data.toList m with
        | none => rfl
        | some v => have := (L1.out v hq).2.1; omega
      go_wp2_with fail
      go_ret2
      exact ⟨n, by rw [hv.out]; rfl, hn, (fun v h => by rw [hv.out] at h; cases h), hx1⟩
  · have hv : Hid (numV s.data.toList m = none) := by
      show _ = _
      cases hq : numV s.data.toList m with
      | none => rfl
      | some v => exact absurd (L1.out v hq).1 (hp v)
    clear hp
    go_wp2_with fail
    go_ret2
    exact ⟨n, by rw [hv.out]; rfl, hn, (fun v h => by rw [hv.out] at h; cases h), hx1⟩
end Go.Proofs.YtgiimmiandhkhaaDoor
