/- WALKS: two lists of instalments that are alike, held against each other. -/
import Derived.Test.YtkafeedmmghoeaaDoorText
import Derived.Deep.MidRow
namespace Go.Proofs.YtkafeedmmghoeaaDoor.sam
open Go.RowKit Go.Lib base dec bld lin txt

set_option maxHeartbeats 1000000 in
theorem one_same (d : Due) (w : World) : Calls Tryd.prog 31 #[.agg #[.int .i64 d.n, .int .i64 d.day, .int .i64 d.int, .int .i64 d.prin], .agg #[.int .i64 d.n, .int .i64 d.day, .int .i64 d.int, .int .i64 d.prin]] w fun e w' => e = .returned (.bool true) ∧ Below w.heap.size w w' := by
  go_enter Tryd.func31, Tryd.ntmps31
  go_wp2
  go_ret
  exact ⟨rfl, by go_grown⟩

set_option maxHeartbeats 1000000 in
theorem same_any (ds : List Due) (A B : Option Addr) (ca cb : Nat) (hn : ds.length ≤ 1000) (w : World) (ha : DuesAt w A ds) (hb : DuesAt w B ds) :
    Calls Tryd.prog 30 #[.slice A ds.length ca, .slice B ds.length cb, .func (.func 31) #[] #[]] w fun e w' => e = .returned (.bool true) ∧ Below w.heap.size w w' := by
  have HA := Lib.hid ha
  have HB := Lib.hid hb
  clear ha hb
  go_enter Tryd.func30, Tryd.ntmps30
  go_wp2
  go_loopg [7] ds.length (fun k v7 wr => ∃ j : Nat, k = ds.length - j ∧ j ≤ ds.length ∧ v7 = .int .i64 (j : Int) ∧ Below w.heap.size w wr)
  case atStart => exact ⟨0, by omega, by omega, rfl, Below.refl _ _⟩
  case round =>
    obtain ⟨j, hk, hj, rfl, hbel⟩ := hrel
    have HK := Lib.hid hk
    clear hk
    by_cases hlt : j < ds.length
    · obtain ⟨d, hdj⟩ : ∃ d, ds[j]? = some d := ⟨_, List.getElem?_eq_getElem hlt⟩
      obtain ⟨ba, oa, rfl, hca⟩ := (HA.out).resolve_left (by intro e; rw [e] at hlt; simp at hlt)
      obtain ⟨bb, ob, rfl, hcb⟩ := (HB.out).resolve_left (by intro e; rw [e] at hlt; simp at hlt)
      obtain ⟨a0, a1, a2, a3⟩ := hca j d hdj
      obtain ⟨b0, b1, b2, b3⟩ := hcb j d hdj
      have g0 := cell_below hbel a0
      have g1 := cell_below hbel a1
      have g2 := cell_below hbel a2
      have g3 := cell_below hbel a3
      have k0 := cell_below hbel b0
      have k1 := cell_below hbel b1
      have k2 := cell_below hbel b2
      have k3 := cell_below hbel b3
      clear hca hcb a0 a1 a2 a3 b0 b1 b2 b3 hdj
      go_upto_region 6 with (fail)
      go_region_held3 (fun w' => (w'.cell? ⟨ba, oa + j * 4, none⟩ = some (.int .i64 d.n) ∧ w'.cell? ⟨ba, oa + j * 4 + 1, none⟩ = some (.int .i64 d.day) ∧ w'.cell? ⟨ba, oa + j * 4 + 2, none⟩ = some (.int .i64 d.int) ∧ w'.cell? ⟨ba, oa + j * 4 + 3, none⟩ = some (.int .i64 d.prin)) ∧ (w'.cell? ⟨bb, ob + j * 4, none⟩ = some (.int .i64 d.n) ∧ w'.cell? ⟨bb, ob + j * 4 + 1, none⟩ = some (.int .i64 d.day) ∧ w'.cell? ⟨bb, ob + j * 4 + 2, none⟩ = some (.int .i64 d.int) ∧ w'.cell? ⟨bb, ob + j * 4 + 3, none⟩ = some (.int .i64 d.prin)) ∧ Below w.heap.size w w')
        (((try go_split_ands); (try dsimp only); (repeat' apply And.intro) <;> (first | (exact cell_below hb (by assumption)) | (exact below_self (by assumption) hb) | (exact below_drewN (by assumption) 1) | assumption | go_keep)))
        (first | (go_at_call 31; go_split_ands; (with_reducible refine (one_same d _).mono ?_); rintro e w' ⟨rfl, hb⟩))
      go_split_ands
      go_wp2
      go_roundg (ds.length - (j + 1))
      case measure => have := HK.out; omega
      case rel => exact ⟨j + 1, rfl, by omega, by go_num, by assumption⟩
    · have hjn : j = ds.length := by omega
      subst hjn
      go_wp2
      go_ret
      exact ⟨rfl, hbel⟩

set_option maxHeartbeats 1000000 in
theorem plain_any (ds : List Due) (A B : Option Addr) (ca cb : Nat) (hn : ds.length ≤ 1000) (w : World) (ha : DuesAt w A ds) (hb : DuesAt w B ds) :
    Calls Tryd.prog 19 #[.slice A ds.length ca, .slice B ds.length cb] w fun e w' => e = .returned (.bool true) ∧ Below w.heap.size w w' := by
  go_enter Tryd.func19, Tryd.ntmps19
  go_wp2_with fail
  go_call (same_any ds A B ca cb hn _ ha hb) as _ w1 ⟨rfl, hb1⟩
  go_wp2
  go_ret
  exact ⟨rfl, hb1⟩

/-! ### a copy with room behind it -/
def dcl (d : Due) : List Value := [.int .i64 d.n, .int .i64 d.day, .int .i64 d.int, .int .i64 d.prin]
def fl (ds : List Due) : List Value := (ds.map dcl).flatten
theorem fl_cons (d : Due) (r : List Due) : fl (d :: r) = dcl d ++ fl r := rfl
theorem fl_app (a b : List Due) : fl (a ++ b) = fl a ++ fl b := by simp [fl]
theorem fl_len (ds : List Due) : (fl ds).length = ds.length * 4 := by
  induction ds with
  | nil => rfl
  | cons d r ih => rw [fl_cons, List.length_append, ih]; simp [dcl]; omega
theorem fl_get (ds : List Due) (j : Nat) (d : Due) (h : ds[j]? = some d) : (fl ds)[j * 4]? = some (.int .i64 d.n) ∧ (fl ds)[j * 4 + 1]? = some (.int .i64 d.day) ∧ (fl ds)[j * 4 + 2]? = some (.int .i64 d.int) ∧ (fl ds)[j * 4 + 3]? = some (.int .i64 d.prin) := by
  induction ds generalizing j with
  | nil => simp at h
  | cons e r ih =>
    cases j with
    | zero => obtain rfl : e = d := by simpa using h
              simp [fl_cons, dcl]
    | succ i =>
      have hi := ih i (by simpa using h)
      have q : ∀ k, (fl (e :: r))[(i + 1) * 4 + k]? = (fl r)[i * 4 + k]? := by
        intro k
        rw [fl_cons, List.getElem?_append_right (by simp [dcl]; omega)]
        congr 1
        simp [dcl]; omega
      exact ⟨(q 0).trans hi.1, (q 1).trans hi.2.1, (q 2).trans hi.2.2.1, (q 3).trans hi.2.2.2⟩
theorem fl_inv (ds : List Due) (i : Nat) (u : Value) (h : (fl ds)[i]? = some u) : ∃ j d, ds[j]? = some d ∧ (i = j * 4 ∧ u = .int .i64 d.n ∨ i = j * 4 + 1 ∧ u = .int .i64 d.day ∨ i = j * 4 + 2 ∧ u = .int .i64 d.int ∨ i = j * 4 + 3 ∧ u = .int .i64 d.prin) := by
  have hi : i < ds.length * 4 := by rw [← fl_len]; exact (List.getElem?_eq_some_iff.1 h).1
  have hj : i / 4 < ds.length := by omega
  obtain ⟨d, hd⟩ : ∃ d, ds[i / 4]? = some d := ⟨_, List.getElem?_eq_getElem hj⟩
  obtain ⟨h0, h1, h2, h3⟩ := fl_get ds _ d hd
  refine ⟨i / 4, d, hd, ?_⟩
  have hm : i = i / 4 * 4 ∨ i = i / 4 * 4 + 1 ∨ i = i / 4 * 4 + 2 ∨ i = i / 4 * 4 + 3 := by omega
  rcases hm with e | e | e | e
  · rw [← e, h] at h0; exact .inl ⟨e, Option.some.inj h0⟩
  · rw [← e, h] at h1; exact .inr (.inl ⟨e, Option.some.inj h1⟩)
  · rw [← e, h] at h2; exact .inr (.inr (.inl ⟨e, Option.some.inj h2⟩))
  · rw [← e, h] at h3; exact .inr (.inr (.inr ⟨e, Option.some.inj h3⟩))
theorem fl_one (ds : List Due) : ∀ u ∈ fl ds, u.oneCell' = true := by
  intro u hu
  obtain ⟨i, hi⟩ := List.mem_iff_getElem?.1 hu
  obtain ⟨j, d, _, h⟩ := fl_inv ds i u hi
  rcases h with ⟨_, rfl⟩ | ⟨_, rfl⟩ | ⟨_, rfl⟩ | ⟨_, rfl⟩ <;> rfl
theorem range_of_dues {w : World} {b o : Nat} {ds : List Due} (h : DuesAt w (some ⟨b, o, none⟩) ds) : w.rangeAt b o (fl ds) := by
  intro i u hu
  obtain ⟨j, d, hd, hk⟩ := fl_inv ds i u hu
  rcases h with rfl | ⟨b', o', e, hc⟩
  · simp at hd
  · injection e with e; injection e with e1 e2; subst e1; subst e2
    obtain ⟨c0, c1, c2, c3⟩ := hc j d hd
    rcases hk with ⟨rfl, rfl⟩ | ⟨rfl, rfl⟩ | ⟨rfl, rfl⟩ | ⟨rfl, rfl⟩
    · exact c0
    · exact c1
    · exact c2
    · exact c3
theorem dues_of_range {w : World} {b o : Nat} {ds : List Due} (h : w.rangeAt b o (fl ds)) : DuesAt w (some ⟨b, o, none⟩) ds := by
  refine .inr ⟨b, o, rfl, fun j d hd => ?_⟩
  obtain ⟨h0, h1, h2, h3⟩ := fl_get ds j d hd
  exact ⟨h _ _ h0, h _ _ h1, h _ _ h2, h _ _ h3⟩
theorem range_left {w : World} {b o : Nat} {a c : List Value} (h : w.rangeAt b o (a ++ c)) : w.rangeAt b o a := fun j v hv => h j v (by rw [List.getElem?_append_left (List.getElem?_eq_some_iff.1 hv).1]; exact hv)
theorem dues_left {w : World} {b o : Nat} {ds es : List Due} (h : DuesAt w (some ⟨b, o, none⟩) (ds ++ es)) : DuesAt w (some ⟨b, o, none⟩) ds := dues_of_range (range_left (by rw [← fl_app]; exact range_of_dues h))
end Go.Proofs.YtkafeedmmghoeaaDoor.sam
