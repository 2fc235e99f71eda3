/- WALKS: what a program that does nothing does not answer: two states, and an empty statement's text. -/
import Derived.Test.YtkafeedmmghoeaaDoorText
namespace Go.Proofs.YtkafeedmmghoeaaDoor.awk
open Go.RowKit Go.Lib base dec bld lin txt

set_option maxHeartbeats 1000000 in
theorem may0 (w : World) : Calls Tryd.prog 60 #[.int .i64 0] w fun e w' => e = .returned (.bool true) ∧ w' = w := by
  go_enter Tryd.func60, Tryd.ntmps60
  go_wp2
  go_ret
  exact ⟨rfl, rfl⟩

set_option maxHeartbeats 2000000 in
set_option maxRecDepth 10000 in
theorem of0 (w : World) : Calls Tryd.prog 61 #[.slice none 0 0] w fun e w' => e = .returned (.tuple #[.agg #[.int .i64 0, .int .i64 0], .bool true]) ∧ Below w.heap.size w w' := by
  go_enter Tryd.func61, Tryd.ntmps61
  go_wp2
  go_rounds 1
  go_wp2
  go_returns
  exact ⟨rfl, by go_grown⟩

def money0 : Value := .agg #[.int .i64 0, .int .i64 0, .slice none 0 0, .int .i64 0, .int .i64 0, .int .i64 0, .int .i64 0, .int .i64 0, .int .i64 0, .int .i64 0]

set_option maxHeartbeats 4000000 in
set_option maxRecDepth 10000 in
theorem read0 (w : World) : Calls Tryd.prog 43 #[.agg #[.int .i64 0, .int .i64 0, .slice none 0 0, .int .i64 0, .int .i64 0, .int .i64 0, .int .i64 0, .int .i64 0, .int .i64 0, .int .i64 0]] w fun e w' => e = .returned (.tuple #[.agg #[.int .i64 0, .int .i64 0], .bool true]) ∧ Below w.heap.size w w' := by
  go_enter Tryd.func43, Tryd.ntmps43
  go_wp2
  go_loopg [27] 8 (fun k v27 wr => ∃ j : Nat, k = 8 - j ∧ j ≤ 8 ∧ v27 = .int .i64 (j : Int) ∧ Blk wr w.heap.size #[.int .i64 0, .int .i64 0, .slice none 0 0, .int .i64 0, .int .i64 0, .int .i64 0, .int .i64 0, .int .i64 0, .int .i64 0, .int .i64 0] 35 ∧ Blk wr (w.heap.size + 1) #[.int .i64 0, .int .i64 0] 78 ∧ Blk wr (w.heap.size + 2) (Array.replicate 8 (.int .i64 0)) 2 ∧ Below w.heap.size w wr)
  case atStart =>
    have B1 := Blk.new w #[.int .i64 0, .int .i64 0, .slice none 0 0, .int .i64 0, .int .i64 0, .int .i64 0, .int .i64 0, .int .i64 0, .int .i64 0, .int .i64 0] 35
    have B2 := Blk.new (w.alloc (.cells #[.int .i64 0, .int .i64 0, .slice none 0 0, .int .i64 0, .int .i64 0, .int .i64 0, .int .i64 0, .int .i64 0, .int .i64 0, .int .i64 0] 35)) #[.int .i64 0, .int .i64 0] 78
    have B3 := Blk.new ((w.alloc (.cells #[.int .i64 0, .int .i64 0, .slice none 0 0, .int .i64 0, .int .i64 0, .int .i64 0, .int .i64 0, .int .i64 0, .int .i64 0, .int .i64 0] 35)).alloc (.cells #[.int .i64 0, .int .i64 0] 78)) (Array.replicate 8 (.int .i64 0)) 2
    refine ⟨0, rfl, by omega, rfl, (B1.alloc _).alloc _, by simpa using B2.alloc _, ?_, by go_grown⟩
    have e : w.heap.size + 2 = ((w.alloc (.cells #[.int .i64 0, .int .i64 0, .slice none 0 0, .int .i64 0, .int .i64 0, .int .i64 0, .int .i64 0, .int .i64 0, .int .i64 0, .int .i64 0] 35)).alloc (.cells #[.int .i64 0, .int .i64 0] 78)).heap.size := by simp
    rw [e]
    exact B3
  case round =>
    obtain ⟨j, hk, hj, rfl, B1, B2, B3, HB⟩ := hrel
    have HK := Lib.hid hk
    clear hk
    have hs : w.heap.size + 2 < wr.heap.size := B3.lt
    by_cases hlt : j < 8
    · have c3 := B3.cell j (.int .i64 0) (by simp [Array.getElem?_replicate]; omega)
      go_wp2_with (go_call (may0 _) as _ wr ⟨rfl, rfl⟩)
      go_roundg (8 - (j + 1))
      case measure => have := HK.out; omega
      case rel => exact ⟨j + 1, rfl, by omega, by go_num, B1, B2, B3, HB⟩
    · have m0 := B1.cell 0 (.int .i64 0) rfl
      have m2 := B1.cell 2 (.slice none 0 0) rfl
      go_wp2_with fail
      go_call (of0 _) as _ w1 ⟨rfl, hb⟩
      replace B1 := (B1.below hb).alloc (.cells #[.int .i64 0, .int .i64 0] 78)
      replace B2 := (B2.below hb).alloc (.cells #[.int .i64 0, .int .i64 0] 78)
      have B4 := Blk.new w1 #[.int .i64 0, .int .i64 0] 78
      have hbl := (below_self HB hb).alloc (by have := hb.size; omega) (.cells #[.int .i64 0, .int .i64 0] 78)
      have hs1 := hb.size
      clear m0 m2 B3 HB hb
      have m0 := B1.cell 0 (.int .i64 0) rfl
      have m1 := B1.cell 1 (.int .i64 0) rfl
      have m3 := B1.cell 3 (.int .i64 0) rfl
      have m4 := B1.cell 4 (.int .i64 0) rfl
      have m5 := B1.cell 5 (.int .i64 0) rfl
      have m6 := B1.cell 6 (.int .i64 0) rfl
      have m7 := B1.cell 7 (.int .i64 0) rfl
      have m8 := B1.cell 8 (.int .i64 0) rfl
      have m9 := B1.cell 9 (.int .i64 0) rfl
      have s0 := B2.cell 0 (.int .i64 0) rfl
      have s1 := B2.cell 1 (.int .i64 0) rfl
      have f0 := B2.frozen 0
      have f1 := B2.frozen 1
      have t0 := B4.cell 0 (.int .i64 0) rfl
      have t1 := B4.cell 1 (.int .i64 0) rfl
      have hne : ¬ w1.heap.size = w.heap.size + 1 := by omega
      go_wp2
      go_region_held3 (fun w' => w'.cell? ⟨w.heap.size, 5, none⟩ = some (.int .i64 0) ∧ w'.cell? ⟨w.heap.size, 7, none⟩ = some (.int .i64 0) ∧ w'.cell? ⟨w.heap.size, 8, none⟩ = some (.int .i64 0) ∧ w'.cell? ⟨w.heap.size, 9, none⟩ = some (.int .i64 0) ∧ w'.cell? ⟨w1.heap.size, 0, none⟩ = some (.int .i64 0) ∧ w'.cell? ⟨w1.heap.size, 1, none⟩ = some (.int .i64 0))
        (((try dsimp only); (repeat' apply And.intro) <;> (first | (assumption) | (exact ((B4.far (p := ⟨w.heap.size + 1, 0, none⟩) hne (.int .i64 0)).far (p := ⟨w.heap.size + 1, 1, none⟩) hne (.int .i64 0)).drew.cell 0 _ rfl) | (exact ((B4.far (p := ⟨w.heap.size + 1, 0, none⟩) hne (.int .i64 0)).far (p := ⟨w.heap.size + 1, 1, none⟩) hne (.int .i64 0)).drew.cell 1 _ rfl) | go_keep))) (fail)
      go_wp2
      have BR := ((B2.set 0 (.int .i64 0)).set 1 (.int .i64 0)).drew
      refine bodyPost_ret (results_ct rfl rfl BR Tryd.underlying78 rfl (by kernel_rfl)) rfl ⟨rfl, ?_⟩
      go_grown

set_option maxHeartbeats 1000000 in
theorem right0 (w : World) : Calls Tryd.prog 32 #[.agg #[.int .i64 0, .int .i64 0, .slice none 0 0, .int .i64 0, .int .i64 0, .int .i64 0, .int .i64 0, .int .i64 0, .int .i64 0, .int .i64 0]] w fun e w' => e = .returned (.bool true) ∧ Below w.heap.size w w' := by
  go_enter Tryd.func32, Tryd.ntmps32
  go_wp2_with fail
  go_call (read0 _) as _ w1 ⟨rfl, hb⟩
  have hs := hb.size
  go_wp2
  go_returns
  refine ⟨rfl, ?_⟩
  have hb' := below_self ((Below.refl _ w).alloc (Nat.le_refl _) _) hb
  have hs' := hb'.size
  go_grown

set_option maxHeartbeats 1000000 in
theorem kind0 (k : Int) (w : World) : Calls Tryd.prog 44 #[.agg #[.int .i64 0, .int .i64 0, .slice none 0 0, .int .i64 0, .int .i64 0, .int .i64 0, .int .i64 0, .int .i64 0, .int .i64 0, .int .i64 0, .int .i64 0, .int .i64 0], .int .i64 k] w fun e w' => e = .returned (.int .i64 0) ∧ Below w.heap.size w w' := by
  go_enter Tryd.func44, Tryd.ntmps44
  go_wp2
  all_goals go_ret
  all_goals exact ⟨rfl, by go_grown⟩

set_option maxHeartbeats 2000000 in
set_option maxRecDepth 10000 in
theorem all0 (w : World) : Calls Tryd.prog 33 #[.agg #[.int .i64 0, .int .i64 0, .slice none 0 0, .int .i64 0, .int .i64 0, .int .i64 0, .int .i64 0, .int .i64 0, .int .i64 0, .int .i64 0]] w fun e w' => e = .returned (.int .i64 0) ∧ Below w.heap.size w w' := by
  have hmf : ∀ (fn : Fn) (first cap : Array Value) (w : World), (Instr.makeFunc fn first cap).run Tryd.prog w = .ok (.func fn first cap) w := fun _ _ _ _ => rfl
  go_enter Tryd.func33, Tryd.ntmps33
  go_wp2_with fail
  go_call (read0 _) as _ w1 ⟨rfl, hb⟩
  have hb' := below_self ((Below.refl _ w).alloc (Nat.le_refl _) (.cells #[.int .i64 0, .int .i64 0, .slice none 0 0, .int .i64 0, .int .i64 0, .int .i64 0, .int .i64 0, .int .i64 0, .int .i64 0, .int .i64 0] 35)) hb
  have hs' := hb'.size
  have B1 := ((Blk.new w #[.int .i64 0, .int .i64 0, .slice none 0 0, .int .i64 0, .int .i64 0, .int .i64 0, .int .i64 0, .int .i64 0, .int .i64 0, .int .i64 0] 35).below hb).alloc (.cells #[.int .i64 0, .int .i64 0] 78)
  have B2 := Blk.new w1 #[.int .i64 0, .int .i64 0] 78
  have HB := Lib.hid hb'
  clear hb hb'
  go_wp2_with (first
    | (refine load_blk B1 rfl rfl rfl Tryd.underlying35 rfl (by kernel_rfl) ?_)
    | (refine load_blk B2 rfl rfl rfl Tryd.underlying78 rfl (by kernel_rfl) ?_))
  go_loopg [6, 7] 4 (fun k v6 v7 wr => ∃ j : Nat, k = 4 - j ∧ j ≤ 4 ∧ v6 = .int .i64 0 ∧ v7 = .int .i64 ((j : Int) + 1) ∧ Below w.heap.size w wr)
  case atStart => exact ⟨0, rfl, by omega, rfl, rfl, by have := HB.out; go_grown⟩
  case round =>
    obtain ⟨j, hk, hj, rfl, rfl, HB2⟩ := hrel
    have HK := Lib.hid hk
    have HBB := Lib.hid HB2
    clear hk B1 B2 HB2
    by_cases hlt : j < 4
    · go_wp2_with fail
      go_call (kind0 _ _) as _ w2 ⟨rfl, hb⟩
      go_wp2
      go_roundg (4 - (j + 1))
      case measure => have := HK.out; omega
      case rel => exact ⟨j + 1, rfl, by omega, rfl, by go_num, below_self HBB.out hb⟩
    · go_wp2
      go_ret
      exact ⟨rfl, HBB.out⟩

set_option maxHeartbeats 1000000 in
theorem empty0 (w : World) : Calls Tryd.prog 20 #[.agg #[.int .i64 0, .int .i64 0, .slice none 0 0, .int .i64 0, .int .i64 0, .int .i64 0, .int .i64 0, .int .i64 0, .int .i64 0, .int .i64 0]] w fun e w' => e = .returned (.bool true) ∧ Below w.heap.size w w' := by
  have B0 := Blk.new w #[.int .i64 0, .int .i64 0, .slice none 0 0, .int .i64 0, .int .i64 0, .int .i64 0, .int .i64 0, .int .i64 0, .int .i64 0, .int .i64 0] 35
  have hb0 := (Below.refl _ w).alloc (Nat.le_refl _) (.cells #[.int .i64 0, .int .i64 0, .slice none 0 0, .int .i64 0, .int .i64 0, .int .i64 0, .int .i64 0, .int .i64 0, .int .i64 0, .int .i64 0] 35)
  go_enter Tryd.func20, Tryd.ntmps20
  go_wp2_with (refine load_blk B0 rfl rfl rfl Tryd.underlying35 rfl (by kernel_rfl) ?_)
  go_call (right0 _) as _ w1 ⟨rfl, hb⟩
  have B1 := B0.below hb
  have hb1 := below_self hb0 hb
  have e0 := B1.cell 0 (.int .i64 0) rfl
  have e1 := B1.cell 1 (.int .i64 0) rfl
  have e2 := B1.cell 2 (.slice none 0 0) rfl
  have e3 := B1.cell 3 (.int .i64 0) rfl
  have e4 := B1.cell 4 (.int .i64 0) rfl
  have e5 := B1.cell 5 (.int .i64 0) rfl
  have e6 := B1.cell 6 (.int .i64 0) rfl
  have e7 := B1.cell 7 (.int .i64 0) rfl
  have e8 := B1.cell 8 (.int .i64 0) rfl
  have e9 := B1.cell 9 (.int .i64 0) rfl
  go_wp2_with fail
  go_call (all0 _) as _ w2 ⟨rfl, hb2⟩
  clear e0 e1 e2 e3 e4 e5 e6 e7 e8 e9
  have B2 := B1.below hb2
  have c0 := B2.cell 0 (.int .i64 0) rfl
  have c1 := B2.cell 1 (.int .i64 0) rfl
  go_wp2
  go_ret
  exact ⟨rfl, below_self hb1 hb2⟩

set_option maxHeartbeats 1000000 in
theorem closed0 (o : Bool) (w : World) : Calls Tryd.prog 10 #[.agg #[.int .i64 0, .bool o, .int .i64 0, .slice none 0 0, .int .i64 0, .int .i64 0, .int .i64 0, .int .i64 0, .slice none 0 0, .int .i64 0, .int .i64 0, .int .i64 0, .int .i64 0, .int .i64 0, .int .i64 0, .int .i64 0, .int .i64 0, .int .i64 0, .int .i64 0]] w fun e w' => e = .returned (.bool o) ∧ Below w.heap.size w w' := by
  cases o
  · go_enter Tryd.func10, Tryd.ntmps10
    go_wp2
    go_ret
    exact ⟨rfl, by go_grown⟩
  · go_enter Tryd.func10, Tryd.ntmps10
    go_wp2_with fail
    go_call (empty0 _) as _ w1 ⟨rfl, hb⟩
    go_wp2
    go_ret
    refine ⟨rfl, ?_⟩
    exact below_self ((Below.refl _ w).alloc (Nat.le_refl _) _) hb

def st0 : St := ⟨0, false, false, 0, 0, 0, 0, 0, 0, 0, [], 0, 0⟩
theorem fit0 : Fit 0 := by unfold Fit; omega
theorem st0_fit : StFit st0 := ⟨fit0, fit0, fit0, fit0, fit0, fit0, fit0, fit0, fun _ h => by simp [st0] at h, fit0, fit0⟩
theorem st0_len : 50 < (textL st0).length := by
  unfold textL headL lineL
  simp [joined, Lib.join, List.intercalate, st0]
  omega

set_option maxHeartbeats 1000000 in
theorem awake_any (w : World) (ht : Tab w) : Calls Tryd.prog 5 #[] w fun e w' => e = .returned (.bool true) ∧ Below w.heap.size w w' := by
  have hl : (50 : Int) < ((textL st0).length : Int) := by have := st0_len; omega
  go_enter Tryd.func5, Tryd.ntmps5
  go_wp2_with fail
  go_call (closed0 true _) as _ w1 ⟨rfl, hb1⟩
  go_wp2_with fail
  go_call (closed0 false _) as _ w2 ⟨rfl, hb2⟩
  go_wp2_with fail
  have hb12 := below_self hb1 hb2
  refine (text_any st0 none 0 st0_fit (by simp [st0]) _ (.inl rfl) (ht.below hb12)).mono ?_
  rintro _ w3 ⟨rfl, hb3⟩
  go_wp2
  go_ret
  exact ⟨rfl, below_self hb12 hb3⟩
end Go.Proofs.YtkafeedmmghoeaaDoor.awk
