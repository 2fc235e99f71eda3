/- THE WALK of the statement on a statement's lines. -/
import Derived.Test.YtkafeedmmghoeaaDoorLines
namespace Go.Proofs.YtkafeedmmghoeaaDoor.lns
open Go.RowKit Go.Lib base dec bld lin txt awk

theorem take_snoc (s : ByteArray) (k : Nat) (h : k < s.size) : s.data.toList.take (k + 1) = s.data.toList.take k ++ [s[k]] := by
  rw [List.take_succ_eq_append_getElem (by simpa using h)]; rfl
def cnt (t : ByteArray) (k : Nat) : Nat := (t.data.toList.take k).count 10
theorem cnt_snoc (t : ByteArray) (k : Nat) (h : k < t.size) : cnt t (k + 1) = cnt t k + if t[k] = 10 then 1 else 0 := by
  unfold cnt
  rw [take_snoc t k h, List.count_append]
  split
  · rename_i h1; rw [h1]; rfl
  · rename_i h1
    have e : ([t[k]] : List UInt8).count 10 = 0 := List.count_eq_zero.2 (by simp only [List.mem_singleton]; exact fun e => h1 e.symm)
    rw [e]
theorem last_of (t : ByteArray) (x : List UInt8) (h : t = ⟨(x ++ [10]).toArray⟩) (hp : t.size - 1 < t.size) : ((t[t.size - 1]'hp).toNat : Int) = 10 := by
  subst h
  have e : (⟨(x ++ [10]).toArray⟩ : ByteArray).size - 1 = x.length := by rw [size_str]; simp
  have e2 : (⟨(x ++ [10]).toArray⟩ : ByteArray)[(⟨(x ++ [10]).toArray⟩ : ByteArray).size - 1]'hp = (x ++ [10])[x.length]'(by simp) := by
    show (x ++ [10])[(⟨(x ++ [10]).toArray⟩ : ByteArray).size - 1]'_ = _
    congr 1
  rw [e2]
  simp
theorem cnt_le (t : ByteArray) (k : Nat) : cnt t k ≤ k := by
  unfold cnt
  have h1 := List.count_le_length (a := (10 : UInt8)) (l := t.data.toList.take k)
  have h2 := List.length_take_le k t.data.toList
  omega

set_option maxHeartbeats 4000000 in
set_option maxRecDepth 100000 in
theorem lines_any (s : St) (A : Option Addr) (c : Nat) (hn0 : s.dues.length ≤ 9223372036854775807) (hf : StFit s) (w : World) (hd : DuesAt w A s.dues) (ht : Tab w) :
    Calls Tryd.prog 4 #[.agg #[.int .i64 s.day, .bool s.opn, .bool s.cld, .int .i64 s.prin, .int .i64 s.acc, .int .i64 s.int, .int .i64 s.due, .int .i64 s.pen, .int .i64 s.fees, .int .i64 s.una, .slice A s.dues.length c, .int .i64 s.next, .int .i64 s.nday]] w fun e w' => e = .returned (.bool true) ∧ Below w.heap.size w w' := by
  have HF := Lib.hid hf
  have HD := Lib.hid hd
  have HT := Lib.hid ht
  clear hf hd ht
  have B0 : Box w (w.alloc (.cells (cells s A c) 24)) (cells s A c) := ⟨by go_grown, Blk.new _ _ _⟩
  by_cases hn : 60 < s.dues.length
  · go_enter Tryd.func4, Tryd.ntmps4
    go_wp2_with fail
    go_call (awake_any _ (HT.out.below B0.below)) as _ w1 ⟨rfl, hb⟩
    go_wp2
    go_ret
    exact ⟨rfl, (B0.pure hb).below⟩
  · go_enter Tryd.func4, Tryd.ntmps4
    go_wp2_with (refine load_blk B0.box rfl rfl rfl Tryd.underlying24 rfl (by kernel_rfl) ?_)
    have hd1 : DuesAt (w.alloc (.cells (cells s A c) 24)) A s.dues := DuesAt.below HD.out ((Below.refl _ _).alloc (Nat.le_refl _) _)
    refine (text_any s A c HF.out (by omega) _ hd1 (HT.out.below B0.below)).mono ?_
    rintro _ w1 ⟨rfl, hb⟩
    have R := B0.pure hb
    obtain ⟨tx, htx⟩ : ∃ tx : ByteArray, tx = ⟨(textL s).toArray⟩ := ⟨_, rfl⟩
    have hlen : tx.size ≤ 1000000 := by rw [htx, size_str]; exact text_len s HF.out (by omega)
    have HTX := Lib.hid htx
    rw [← htx]
    clear htx hb hd1 B0
    go_wp2
    go_loopg [4, 5] tx.size (fun k v4 v5 wr => ∃ j : Nat, k = tx.size - j ∧ j ≤ tx.size ∧ v5 = .int .i64 (j : Int) ∧ v4 = .int .i64 (cnt tx j : Int) ∧ Box w wr (cells s A c))
    case atStart => exact ⟨0, by omega, by omega, rfl, rfl, R⟩
    case round =>
      obtain ⟨j, hk, hj, rfl, rfl, R⟩ := hrel
      have HK := Lib.hid hk
      clear hk
      have hc := cnt_le tx j
      by_cases hlt : j < tx.size
      · have HS := Lib.hid (cnt_snoc tx j hlt)
        by_cases h10 : tx[j] = 10
        · have hb10 : ((tx[j].toNat : Int) == 10) = true := by rw [h10]; rfl
          have H10 := Lib.hid h10
          clear h10
          go_wp2
          go_roundg (tx.size - (j + 1))
          case measure => have := HK.out; omega
          case rel => exact ⟨j + 1, rfl, by omega, by go_num, by rw [HS.out, if_pos H10.out]; go_num, R⟩
        · have hb10 : ((tx[j].toNat : Int) == 10) = false := by
            apply Bool.eq_false_iff.2
            intro e
            apply h10
            have e' : (tx[j].toNat : Int) = 10 := by simpa using e
            apply UInt8.toNat_inj.1
            have : (10 : UInt8).toNat = 10 := rfl
            omega
          have H10 := Lib.hid h10
          clear h10
          go_wp2
          go_roundg (tx.size - (j + 1))
          case measure => have := HK.out; omega
          case rel => exact ⟨j + 1, rfl, by omega, by go_num, by rw [HS.out, if_neg H10.out]; go_num, R⟩
      · have hjn : j = tx.size := by omega
        subst hjn
        have c10 := R.box.cell 10 (.slice A s.dues.length c) rfl
        have c11 := R.box.cell 11 (.int .i64 s.next) rfl
        have hcount : cnt tx tx.size = 8 + s.dues.length + (if s.next = 0 then 0 else 1) := by
          have h1 : cnt tx tx.size = (textL s).count 10 := by
            rw [HTX.out]
            unfold cnt
            rw [size_str]
            simp
          rw [h1]; exact count_text s
        have HC := Lib.hid hcount
        clear hcount
        have hpos : 0 < tx.size := by
          obtain ⟨x, hx⟩ := ends_text s
          rw [HTX.out, size_str, hx]; simp
        have hlast : ((tx[tx.size - 1]'(by omega)).toNat : Int) = 10 := by
          obtain ⟨x, hx⟩ := ends_text s
          have htx := HTX.out
          rw [hx] at htx
          exact last_of tx x htx (by omega)
        by_cases hz : s.next = 0
        · have HZ := Lib.hid hz
          have hzb : (s.next != 0) = false := by rw [hz]; rfl
          clear hz
          have q1 : ((cnt tx tx.size : Nat) : Int) ≤ 8 + (s.dues.length : Int) := by have := HC.out; rw [if_pos HZ.out] at this; omega
          have q2 : 8 + (s.dues.length : Int) ≤ ((cnt tx tx.size : Nat) : Int) := by have := HC.out; rw [if_pos HZ.out] at this; omega
          go_wp2_with fail
          go_call (awake_any _ (HT.out.below R.below)) as _ w2 ⟨rfl, hb2⟩
          have HR := Lib.hid (R.pure hb2).below
          go_wp2
          all_goals first | (exfalso; omega) | go_ret
          exact ⟨rfl, HR.out⟩
        · have HZ := Lib.hid hz
          have hzb : (s.next != 0) = true := by simpa using hz
          clear hz
          have q1 : ((cnt tx tx.size : Nat) : Int) ≤ 8 + (s.dues.length : Int) + 1 := by have := HC.out; rw [if_neg HZ.out] at this; omega
          have q2 : 8 + (s.dues.length : Int) + 1 ≤ ((cnt tx tx.size : Nat) : Int) := by have := HC.out; rw [if_neg HZ.out] at this; omega
          go_wp2_with fail
          go_call (awake_any _ (HT.out.below R.below)) as _ w2 ⟨rfl, hb2⟩
          have HR := Lib.hid (R.pure hb2).below
          go_wp2
          all_goals first | (exfalso; omega) | go_ret
          exact ⟨rfl, HR.out⟩
end Go.Proofs.YtkafeedmmghoeaaDoor.lns
