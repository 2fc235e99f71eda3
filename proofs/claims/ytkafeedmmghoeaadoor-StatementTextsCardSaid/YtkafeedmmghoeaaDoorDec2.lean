/- WALKS: numbers, money and days as texts, the program's and the reference's, second part. -/
import Derived.Test.YtkafeedmmghoeaaDoorDec
namespace Go.Proofs.YtkafeedmmghoeaaDoor.dec
open Go.RowKit Go.Lib base civ

/-- digits of a number, so many at least -/
def dig (v n : Nat) : List UInt8 := List.replicate (n - (Lib.decDigits v).length) 48 ++ Lib.decDigits v
def sign (v : Int) : List UInt8 := if v < 0 then [45] else []
/-- the text of money -/
def moneyL (v : Int) : List UInt8 := sign v ++ (dig (v.natAbs / 100) 1 ++ 46 :: dig (v.natAbs % 100) 2)

theorem decDigits_len (v : Nat) (h : v < 18446744073709551616) : 1 ≤ (Lib.decDigits v).length ∧ (Lib.decDigits v).length ≤ 20 := by
  by_cases h0 : v = 0
  · subst h0; rw [decDigits_one (by omega)]; simp
  · rw [decDigits_length]
    have := Lib.numDigits_eq v (by omega) h
    constructor
    · by_cases h10 : v < 10
      · have := decDigits_one h10; have e := decDigits_length v; rw [this] at e; simp at e; omega
      · rw [← decDigits_length, decDigits, dif_neg h10, List.length_append]; simp
    · split at this <;> omega
theorem dig_len (v n : Nat) (h : v < 18446744073709551616) (hn : n ≤ 20) : (dig v n).length ≤ 20 := by
  have := decDigits_len v h
  unfold dig
  simp; omega
theorem sign_len (v : Int) : (sign v).length ≤ 1 := by unfold sign; split <;> simp
theorem repeat_zero (c : Nat) : Lib.repeatL [48] c = List.replicate c 48 := by
  induction c with
  | zero => rfl
  | succ c ih => simp [Lib.repeatL, ih, List.replicate_succ]

set_option maxHeartbeats 1000000 in
theorem digits_any (v n : Nat) (hv : v < 18446744073709551616) (hn : n ≤ 20) (w : World) (ht : Tab w) :
    Calls Tryd.prog 25 #[.int .u64 v, .int .i64 n] w fun e w' => e = .returned (.string ⟨(dig v n).toArray⟩) ∧ RowKit.Below w.heap.size w w' := by
  have hl := decDigits_len v hv
  have hcat := cat_str
  go_enter Tryd.func25, Tryd.ntmps25
  go_wp2_with fail
  go_call (fmtu_any v hv _ ht) as _ w1 ⟨rfl, hb⟩
  go_wp2_with fail
  rw [show max ((n : Int) - ((Lib.decDigits v).length : Int)) 0 = ((n - (Lib.decDigits v).length : Nat) : Int) from by omega]
  go_call (Tryd.strings_Repeat (⟨([48] : List UInt8).toArray⟩) (n - (Lib.decDigits v).length) _ (by omega) (by simp [ByteArray.size]; omega)) as _ w2 ⟨rfl, hb2⟩
  have hr : Lib.repeatL (⟨([48] : List UInt8).toArray⟩ : ByteArray).data.toList (n - (Lib.decDigits v).length) = List.replicate (n - (Lib.decDigits v).length) 48 := repeat_zero _
  rw [hr]
  have q1 : ¬ 9223372036854775807 < n - (Lib.decDigits v).length + (Lib.decDigits v).length := by omega
  clear hr
  go_wp2
  go_ret
  exact ⟨rfl, below_self hb hb2⟩

set_option maxHeartbeats 1000000 in
theorem parts_any (v : Int) (h0 : -9223372036854775808 ≤ v) (h1 : v ≤ 9223372036854775807) (by_ : Nat) (hb0 : 1 ≤ by_) (hb1 : by_ < 18446744073709551616) (w : World) :
    Calls Tryd.prog 24 #[.int .i64 v, .int .u64 by_] w fun e w' => e = .returned (.tuple #[.string ⟨(sign v).toArray⟩, .int .u64 ((v.natAbs / by_ : Nat) : Int), .int .u64 ((v.natAbs % by_ : Nat) : Int)]) ∧ RowKit.Below w.heap.size w w' := by
  by_cases hv : v < 0
  · have hs : sign v = [45] := by unfold sign; rw [if_pos hv]
    go_enter Tryd.func24, Tryd.ntmps24
    have hm : IntKind.u64.wrap (-(v + 1)) = -(v + 1) := by rw [IntKind.wrap_u64]; omega
    have hq : (-v) / (by_ : Int) = ((v.natAbs / by_ : Nat) : Int) := by rw [Int.natCast_ediv]; congr 1; omega
    have hr : (-v) % (by_ : Int) = ((v.natAbs % by_ : Nat) : Int) := by rw [Int.natCast_emod]; congr 1; omega
    go_wp2
    go_region
    go_wp2
    go_ret3
    refine ⟨?_, by go_grown⟩
    have e1 : -(v + 1) + 1 = -v := by omega
    rw [e1, hq, hr, hs]
    exact ret_t3 rfl rfl rfl
  · have hs : sign v = [] := by unfold sign; rw [if_neg hv]
    go_enter Tryd.func24, Tryd.ntmps24
    have hq : v / (by_ : Int) = ((v.natAbs / by_ : Nat) : Int) := by rw [Int.natCast_ediv]; congr 1; omega
    have hr : v % (by_ : Int) = ((v.natAbs % by_ : Nat) : Int) := by rw [Int.natCast_emod]; congr 1; omega
    go_wp2
    go_region
    go_wp2
    go_ret3
    refine ⟨?_, by go_grown⟩
    rw [hq, hr, hs]
    exact ret_t3 rfl rfl rfl

set_option maxHeartbeats 1000000 in
theorem money_any (v : Int) (h0 : -9223372036854775808 ≤ v) (h1 : v ≤ 9223372036854775807) (w : World) (ht : Tab w) :
    Calls Tryd.prog 13 #[.int .i64 v] w fun e w' => e = .returned (.string ⟨(moneyL v).toArray⟩) ∧ Below w.heap.size w w' := by
  have hcat := cat_str
  have l0 := sign_len v
  have l1 := dig_len (v.natAbs / 100) 1 (by omega) (by omega)
  have l2 := dig_len (v.natAbs % 100) 2 (by omega) (by omega)
  go_enter Tryd.func13, Tryd.ntmps13
  go_wp2_with fail
  go_call (parts_any v h0 h1 100 (by omega) (by omega) _) as _ w1 ⟨rfl, hb⟩
  go_wp2_with fail
  go_call (digits_any (v.natAbs / 100) 1 (by omega) (by omega) _ (ht.below hb)) as _ w2 ⟨rfl, hb2⟩
  have q0 : ¬ 9223372036854775807 < (sign v).length + (dig (v.natAbs / 100) 1).length := by omega
  have q1 : ¬ 9223372036854775807 < (sign v).length + (dig (v.natAbs / 100) 1).length + 1 := by omega
  go_wp2_with fail
  go_call (digits_any (v.natAbs % 100) 2 (by omega) (by omega) _ ((ht.below hb).below hb2)) as _ w3 ⟨rfl, hb3⟩
  have q2 : ¬ 9223372036854775807 < (sign v).length + ((dig (v.natAbs / 100) 1).length + 1) + (dig (v.natAbs % 100) 2).length := by omega
  go_wp2
  go_ret
  exact ⟨ret_str (by unfold moneyL; simp), below_self (below_self hb hb2) hb3⟩

/-! ### the reference's -/
set_option maxHeartbeats 1000000 in
theorem rsize_any (v : Int) (h0 : -9223372036854775808 ≤ v) (h1 : v ≤ 9223372036854775807) (w : World) :
    Calls Tryd.prog 28 #[.int .i64 v] w fun e w' => e = .returned (.tuple #[.int .u64 (v.natAbs : Int), .string ⟨(sign v).toArray⟩]) ∧ w' = w := by
  by_cases hv : v < 0
  · have hs : sign v = [45] := by unfold sign; rw [if_pos hv]
    have hm : IntKind.u64.wrap (-(v + 1)) = -(v + 1) := by rw [IntKind.wrap_u64]; omega
    go_enter Tryd.func28, Tryd.ntmps28
    go_wp2
    go_ret2
    have e1 : -(v + 1) + 1 = (v.natAbs : Int) := by omega
    rw [e1, hs]
    exact ⟨ret_t2 rfl rfl, rfl⟩
  · have hs : sign v = [] := by unfold sign; rw [if_neg hv]
    go_enter Tryd.func28, Tryd.ntmps28
    go_wp2
    go_ret2
    exact ⟨ret_t2 (congrArg (Value.int .u64) (by omega)) rfl, rfl⟩

/-- what is still to come ahead of what is there -/
def padTo (v m : Nat) : List UInt8 := if v = 0 then List.replicate m 48 else dig v m
theorem padTo_step (v m : Nat) (h : v ≠ 0 ∨ m ≠ 0) : padTo v m = padTo (v / 10) (m - 1) ++ [UInt8.ofNat (48 + v % 10)] := by
  unfold padTo dig
  by_cases h0 : v = 0
  · subst h0
    obtain ⟨k, rfl⟩ : ∃ k, m = k + 1 := ⟨m - 1, by omega⟩
    simp [List.replicate_succ']
  · rw [if_neg h0]
    by_cases h10 : v < 10
    · have hd : v / 10 = 0 := by omega
      have hm : v % 10 = v := by omega
      rw [if_pos hd, hm, decDigits_one h10]
      simp
    · have hd : ¬ v / 10 = 0 := by omega
      rw [if_neg hd]
      have e : Lib.decDigits v = Lib.decDigits (v / 10) ++ [UInt8.ofNat (48 + v % 10)] := by
        conv => lhs; rw [decDigits, dif_neg h10]
      rw [e]
      have e2 : m - (Lib.decDigits (v / 10) ++ [UInt8.ofNat (48 + v % 10)]).length = m - 1 - (Lib.decDigits (v / 10)).length := by simp; omega
      rw [e2]
      simp
theorem padTo_end : padTo 0 0 = [] := by simp [padTo]
theorem padTo_dig (v n : Nat) (hn : 1 ≤ n) : padTo v n = dig v n := by
  unfold padTo
  by_cases h0 : v = 0
  · subst h0
    rw [if_pos rfl]
    unfold dig
    rw [decDigits_one (by omega)]
    obtain ⟨k, rfl⟩ : ∃ k, n = k + 1 := ⟨n - 1, by omega⟩
    simp [List.replicate_succ']
  · rw [if_neg h0]
theorem pad_len (u m v n : Nat) (s : List UInt8) (h : padTo u m ++ s = dig v n) (hv : v < 18446744073709551616) (hn : n ≤ 20) : s.length ≤ 20 := by
  have h1 := congrArg List.length h
  have h2 := dig_len v n hv hn
  simp at h1; omega

theorem conv_one (w : World) (x : Nat) (hx : x < 256) : (convert 40 9 (.slice (some ⟨w.heap.size, 0, none⟩) 1 1)).run Tryd.prog (w.alloc (.cells #[.int .u8 (x : Int)] 5)) = .ok (.string ⟨([UInt8.ofNat x] : List UInt8).toArray⟩) (w.alloc (.cells #[.int .u8 (x : Int)] 5)) := by
  refine run_convert_bytes_back (P := Tryd.prog) _ 40 9 5 ⟨w.heap.size, 0, none⟩ 1 [UInt8.ofNat x] Tryd.underlying40 Tryd.underlying5 Tryd.underlying9 (fun j hj => ?_)
  obtain rfl : j = 0 := by simpa using hj
  rw [Lib.add_plain, World.cell?_alloc_new]
  simp
  omega
set_option maxHeartbeats 2000000 in
set_option maxRecDepth 100000 in
theorem rdigits_any (v n : Nat) (hv : v < 18446744073709551616) (hn : n ≤ 20) (hn1 : 1 ≤ n) (w : World) :
    Calls Tryd.prog 29 #[.int .u64 v, .int .i64 n] w fun e w' => e = .returned (.string ⟨(dig v n).toArray⟩) ∧ Below w.heap.size w w' := by
  have hcat := cat_str
  go_enter Tryd.func29, Tryd.ntmps29
  go_wp2
  go_loopg [0, 5] (v + n) (fun k t0 t5 wr => ∃ (u : Nat) (s : List UInt8), k = u + (n - s.length) ∧ u ≤ v ∧ t0 = .int .u64 u ∧ t5 = .string ⟨s.toArray⟩ ∧ padTo u (n - s.length) ++ s = dig v n ∧ Below w.heap.size w wr)
  case atStart => exact ⟨v, [], by simp, by omega, rfl, rfl, by simp [padTo_dig v n hn1], by go_grown⟩
  case round =>
    obtain ⟨u, s, hk, huv, rfl, rfl, hp, HB⟩ := hrel
    have hl := pad_len u _ v n s hp hv hn
    have HK := Lib.hid hk
    have HP := Lib.hid hp
    clear hk hp
    have hs := HB.size
    by_cases hc : u ≠ 0 ∨ s.length < n
    · have hcv := conv_one wr (48 + u % 10) (by omega)
      rw [show (((48 + u % 10 : Nat)) : Int) = 48 + (u : Int) % 10 from by omega] at hcv
      have hst := padTo_step u (n - s.length) (by omega)
      have HST := Lib.hid hst
      clear hst
      have q1 : ¬ 9223372036854775807 < 1 + s.length := by omega
      have fin : ∀ (h : u ≠ 0 ∨ s.length < n), padTo (u / 10) (n - (UInt8.ofNat (48 + u % 10) :: s).length) ++ UInt8.ofNat (48 + u % 10) :: s = dig v n := by
        intro _
        rw [← HP.out, HST.out]
        simp
        congr 1 <;> omega
      have FIN := Lib.hid (fin hc)
      clear fin
      by_cases hu : 1 ≤ u
      · clear hc
        go_wp2
        go_roundg (u / 10 + (n - (UInt8.ofNat (48 + u % 10) :: s).length))
        case measure => have := HK.out; simp; omega
        case rel => exact ⟨u / 10, UInt8.ofNat (48 + u % 10) :: s, rfl, by omega, by go_num, by simp, FIN.out, HB.alloc hs _⟩
      · have hlt : s.length < n := by omega
        have hu0 : u ≤ 0 := by omega
        clear hc hu
        go_wp2
        go_roundg (u / 10 + (n - (UInt8.ofNat (48 + u % 10) :: s).length))
        case measure => have := HK.out; simp; omega
        case rel => exact ⟨u / 10, UInt8.ofNat (48 + u % 10) :: s, rfl, by omega, by go_num, by simp, FIN.out, HB.alloc hs _⟩
    · have hu : u = 0 := by omega
      subst hu
      have hge : n ≤ s.length := by omega
      clear hc
      go_wp2
      go_ret
      refine ⟨ret_str ?_, HB⟩
      have := HP.out
      rw [show n - s.length = 0 from by omega, padTo_end] at this
      simpa using this
set_option maxHeartbeats 2000000 in
set_option maxRecDepth 100000 in
theorem hdigits_any (v n : Nat) (hv : v < 9223372036854775808) (hn : n ≤ 20) (hn1 : 1 ≤ n) (w : World) :
    Calls Tryd.prog 42 #[.int .i64 v, .int .i64 n] w fun e w' => e = .returned (.string ⟨(dig v n).toArray⟩) ∧ Below w.heap.size w w' := by
  have hcat := cat_str
  go_enter Tryd.func42, Tryd.ntmps42
  go_wp2
  go_loopg [0, 5] (v + n) (fun k t0 t5 wr => ∃ (u : Nat) (s : List UInt8), k = u + (n - s.length) ∧ u ≤ v ∧ t0 = .int .i64 u ∧ t5 = .string ⟨s.toArray⟩ ∧ padTo u (n - s.length) ++ s = dig v n ∧ Below w.heap.size w wr)
  case atStart => exact ⟨v, [], by simp, by omega, rfl, rfl, by simp [padTo_dig v n hn1], by go_grown⟩
  case round =>
    obtain ⟨u, s, hk, huv, rfl, rfl, hp, HB⟩ := hrel
    have hl := pad_len u _ v n s hp (by omega) hn
    have HK := Lib.hid hk
    have HP := Lib.hid hp
    clear hk hp
    have hs := HB.size
    by_cases hc : u ≠ 0 ∨ s.length < n
    · have hcv := conv_one wr (48 + u % 10) (by omega)
      rw [show (((48 + u % 10 : Nat)) : Int) = 48 + (u : Int) % 10 from by omega] at hcv
      have hst := padTo_step u (n - s.length) (by omega)
      have HST := Lib.hid hst
      clear hst
      have q1 : ¬ 9223372036854775807 < 1 + s.length := by omega
      have fin : ∀ (h : u ≠ 0 ∨ s.length < n), padTo (u / 10) (n - (UInt8.ofNat (48 + u % 10) :: s).length) ++ UInt8.ofNat (48 + u % 10) :: s = dig v n := by
        intro _
        rw [← HP.out, HST.out]
        simp
        congr 1 <;> omega
      have FIN := Lib.hid (fin hc)
      clear fin
      by_cases hu : 1 ≤ u
      · clear hc
        go_wp2
        go_roundg (u / 10 + (n - (UInt8.ofNat (48 + u % 10) :: s).length))
        case measure => have := HK.out; simp; omega
        case rel => exact ⟨u / 10, UInt8.ofNat (48 + u % 10) :: s, rfl, by omega, by go_num, by simp, FIN.out, HB.alloc hs _⟩
      · have hlt : s.length < n := by omega
        have hu0 : u ≤ 0 := by omega
        clear hc hu
        go_wp2
        go_roundg (u / 10 + (n - (UInt8.ofNat (48 + u % 10) :: s).length))
        case measure => have := HK.out; simp; omega
        case rel => exact ⟨u / 10, UInt8.ofNat (48 + u % 10) :: s, rfl, by omega, by go_num, by simp, FIN.out, HB.alloc hs _⟩
    · have hu : u = 0 := by omega
      subst hu
      have hge : n ≤ s.length := by omega
      clear hc
      go_wp2
      go_ret
      refine ⟨ret_str ?_, HB⟩
      have := HP.out
      rw [show n - s.length = 0 from by omega, padTo_end] at this
      simpa using this

set_option maxHeartbeats 1000000 in
theorem rmoney_any (v : Int) (h0 : -9223372036854775808 ≤ v) (h1 : v ≤ 9223372036854775807) (w : World) :
    Calls Tryd.prog 17 #[.int .i64 v] w fun e w' => e = .returned (.string ⟨(moneyL v).toArray⟩) ∧ Below w.heap.size w w' := by
  have hcat := cat_str
  have l0 := sign_len v
  have l1 := dig_len (v.natAbs / 100) 1 (by omega) (by omega)
  have l2 := dig_len (v.natAbs % 100) 2 (by omega) (by omega)
  have hq : (v.natAbs : Int) / 100 = ((v.natAbs / 100 : Nat) : Int) := by rw [Int.natCast_ediv]; rfl
  have hr : (v.natAbs : Int) % 100 = ((v.natAbs % 100 : Nat) : Int) := by rw [Int.natCast_emod]; rfl
  have HQ := Lib.hid hq
  have HR := Lib.hid hr
  clear hq hr
  go_enter Tryd.func17, Tryd.ntmps17
  go_wp2_with fail
  go_call (rsize_any v h0 h1 _) as _ w ⟨rfl, rfl⟩
  go_wp2_with fail
  rw [HQ.out]
  go_call (rdigits_any (v.natAbs / 100) 1 (by omega) (by omega) (by omega) _) as _ w2 ⟨rfl, hb2⟩
  have q0 : ¬ 9223372036854775807 < (sign v).length + (dig (v.natAbs / 100) 1).length := by omega
  have q1 : ¬ 9223372036854775807 < (sign v).length + (dig (v.natAbs / 100) 1).length + 1 := by omega
  go_wp2_with fail
  rw [HR.out]
  go_call (rdigits_any (v.natAbs % 100) 2 (by omega) (by omega) (by omega) _) as _ w3 ⟨rfl, hb3⟩
  have q2 : ¬ 9223372036854775807 < (sign v).length + ((dig (v.natAbs / 100) 1).length + 1) + (dig (v.natAbs % 100) 2).length := by omega
  go_wp2
  go_ret
  exact ⟨ret_str (by unfold moneyL; simp), below_self hb2 hb3⟩

theorem decDigits_small (v : Nat) (h : v < 10) : Lib.decDigits v = [UInt8.ofNat (48 + v)] := decDigits_one h
theorem dig_one (v : Nat) (h : v < 18446744073709551616) : dig v 1 = Lib.decDigits v := by
  have := decDigits_len v h
  unfold dig
  rw [show 1 - (Lib.decDigits v).length = 0 from by omega]
  rfl
theorem dig_two (v : Nat) (h : v < 100) : dig v 2 = twoL (v : Int) := by
  unfold dig twoL
  rw [show ((v : Int) / 10) = ((v / 10 : Nat) : Int) from by omega, show ((v : Int) % 10) = ((v % 10 : Nat) : Int) from by omega, itoa_nonneg, itoa_nonneg, decDigits_one (show v / 10 < 10 from by omega), decDigits_one (show v % 10 < 10 from by omega)]
  by_cases h10 : v < 10
  · rw [decDigits_one h10, show v / 10 = 0 from by omega, show v % 10 = v from by omega]
    rfl
  · rw [decDigits_two h10 h]
    rfl
theorem dig_four (v : Nat) (h : v < 10000) (h1 : 1000 ≤ v) : dig v 4 = Lib.itoa (v : Int) := by
  rw [itoa_nonneg]
  unfold dig
  have e : (Lib.decDigits v).length = 4 := by
    rw [decDigits_length]
    exact nDigits_unique 3 v (by simpa using h1) (by simpa using h)
  rw [e]
  rfl
end Go.Proofs.YtkafeedmmghoeaaDoor.dec
