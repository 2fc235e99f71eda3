/- WALKS: a copy of a list of instalments with room behind it; is it as it was? -/
import Derived.Test.YtkafeedmmghoeaaDoorSame
namespace Go.Proofs.YtkafeedmmghoeaaDoor.sam
open Go.RowKit Go.Lib base dec bld lin txt

theorem grown_below {B : Nat} {w w1 w2 : World} {g : Nat} (h : Below B w w1) (hB : B ≤ w1.heap.size) (k : w1.grownBy w2 (some g)) (hg : B ≤ g) : Below B w w2 :=
  h.trans ⟨k.os, k.tape, k.output, k.size, fun i hi => k.block i (by omega) (fun e => by injection e with e; omega)⟩
theorem grown_below0 {B : Nat} {w w1 w2 : World} (h : Below B w w1) (hB : B ≤ w1.heap.size) (k : w1.grownBy w2 none) : Below B w w2 :=
  h.trans ⟨k.os, k.tape, k.output, k.size, fun i hi => k.block i (by omega) (fun e => by cases e)⟩
theorem setCells_stored (w : World) (b o : Nat) (vs : List Value) : StoredAt w b (w.setCells b o vs) := by
  induction vs generalizing w o with
  | nil => exact ⟨rfl, rfl, rfl, rfl, fun _ _ => rfl⟩
  | cons v r ih =>
    have h := ih (w.setCell ⟨b, o, none⟩ v) (o + 1)
    rw [World.setCells]
    exact ⟨h.os, h.tape, h.output, h.size.trans (by simp [World.setCell]), fun k hk => (h.other k hk).trans (Below.heap_setCell w ⟨b, o, none⟩ v k hk)⟩
theorem range_app {w : World} {b o : Nat} {x y : List Value} (h : w.rangeAt b o x) (k : w.rangeAt b (o + x.length) y) : w.rangeAt b o (x ++ y) := by
  intro j v hv
  by_cases hj : j < x.length
  · exact h j v (by rw [List.getElem?_append_left hj] at hv; exact hv)
  · rw [List.getElem?_append_right (by omega)] at hv
    have := k _ v hv
    rwa [show o + x.length + (j - x.length) = o + j by omega] at this
def f71 : Due := ⟨71, 0, 0, 0⟩
theorem own_there {w : World} {base g n cap : Nat} {xs : List Value} {e : TypeId} (h : w.ownsRow base e 4 (.slice (some ⟨g, 0, none⟩) n cap) n xs) : base ≤ g ∧ w.rangeAt g 0 xs ∧ w.there g 0 (cap * 4) := by
  obtain ⟨h1, h2⟩ := h
  rcases h2 with ⟨e, _⟩ | ⟨g', cap', cur, e, hb, hg, hnc, _, hs, ht⟩
  · cases e
  · injection e with e1 e2 e3
    injection e1 with e1; injection e1 with e1 _; subst e1; subst e3
    refine ⟨hb, fun j v hv => ?_, fun j hj => ?_⟩
    · rw [Nat.zero_add, cell_of_row w _ _ cur _ _ hg]
      rw [← ht, List.getElem?_take] at hv
      split at hv
      · simpa using hv
      · cases hv
    · rw [Nat.zero_add, cell_of_row w _ _ cur _ _ hg]
      refine ⟨by rw [Array.getElem?_eq_getElem (by omega)]; rfl, ?_⟩
      simp [World.frozen?, hg]

set_option maxHeartbeats 2000000 in
set_option maxRecDepth 100000 in
theorem own_any (ds : List Due) (A : Option Addr) (c : Nat) (hn : ds.length ≤ 1000) (hA : A = none → c = 0) (w : World) (ha : DuesAt w A ds) :
    Calls Tryd.prog 6 #[.slice A ds.length c, .agg #[.int .i64 71, .int .i64 0, .int .i64 0, .int .i64 0]] w fun e w' => ∃ g, e = .returned (.slice (some ⟨g, 0, none⟩) ds.length (ds.length + 3)) ∧ w.heap.size ≤ g ∧ Below w.heap.size w w' ∧ DuesAt w' (some ⟨g, 0, none⟩) (ds ++ [f71, f71, f71]) := by
  have HA := Lib.hid ha
  clear ha
  obtain ⟨ti, hi⟩ := Option.isSome_iff_exists.1 (show (Tryd.prog.info? 28).isSome = true by kernel_rfl)
  obtain ⟨tz, hzz⟩ := Option.isSome_iff_exists.1 (show ((Tryd.prog.info? 28).bind (·.zero)).isSome = true by kernel_rfl)
  have hsz : (Tryd.prog.info? 28).map (·.size) = some 4 := by kernel_rfl
  have hby : (Tryd.prog.info? 28).map (·.bytes) = some 32 := by kernel_rfl
  rw [hi] at hzz hsz hby
  replace hzz : ti.zero = some tz := hzz
  replace hsz : ti.size = 4 := by simpa using hsz
  replace hby : ti.bytes = 32 := by simpa using hby
  have HI := Lib.hid hi
  have HZ := Lib.hid hzz
  have HSZ := Lib.hid hsz
  have HBY := Lib.hid hby
  clear hi hzz hsz hby
  have B0 : Blk (w.alloc (.cells #[.int .i64 71, .int .i64 0, .int .i64 0, .int .i64 0] 28)) w.heap.size #[.int .i64 71, .int .i64 0, .int .i64 0, .int .i64 0] 28 := Blk.new _ _ _
  have hB0 : Below w.heap.size w (w.alloc (.cells #[.int .i64 71, .int .i64 0, .int .i64 0, .int .i64 0] 28)) := (Below.refl _ _).alloc (Nat.le_refl _) _
  have hmax : ds.length + 3 ≤ maxLen := by have : maxLen = 9223372036854775807 := rfl; omega
  go_enter Tryd.func6, Tryd.ntmps6
  go_wp2_with (refine wpList_make_own _ rfl (.const (.int .i64 0)) (.tmp 10) 22 rfl w.heap.size 28 ti tz 4 Tryd.underlying22 HI.out HZ.out HSZ.out _ _ _ (ds.length + 3) rfl rfl (by omega) (by rw [HBY.out]; omega) hmax hB0.size ?_)
  intro w1 hown1 hgrow1
  have hb1 := grown_below0 hB0 hB0.size hgrow1
  have HG1 := Lib.hid hgrow1
  clear hgrow1
  have hnone : A = none → ds.length = 0 ∧ c = 0 := fun e => ⟨(HA.out).elim (fun h => by rw [h]; rfl) (fun h => by obtain ⟨_, _, h, _⟩ := h; rw [e] at h; cases h), hA e⟩
  have hcells : ∀ ad, A = some ad → ∀ j u, (fl ds)[j]? = some u → w1.cell? (ad.add j) = some u := by
    intro ad e j u hu
    rcases HA.out with h | ⟨b, o, h, _⟩
    · subst h; cases hu
    · rw [h] at e; injection e with e; subst e
      rw [Addr.add_mid]
      exact cell_below hb1 (range_of_dues (h ▸ HA.out) j u hu)
  go_wp2_with (refine wpList_append_fits_any _ rfl (.tmp 12) (.tmp 13) 22 rfl w.heap.size 28 ti 4 Tryd.underlying22 HI.out HSZ.out (w.heap.size + 1) 0 (ds.length + 3) [] rfl hown1 A ds.length c (fl ds) rfl (fl_len ds) hnone hcells (fl_one ds) (by omega) ?_)
  intro w2 hown2 hgrow2
  have hb2 := grown_below hb1 hb1.size hgrow2 (by omega)
  obtain ⟨_, hr2, ht2⟩ := own_there hown2
  have hgl : w.heap.size < w1.heap.size := by have := HG1.out.size; simp at this; omega
  have B2 : Blk w2 w.heap.size #[.int .i64 71, .int .i64 0, .int .i64 0, .int .i64 0] 28 := (hgrow2.block _ hgl (fun e => by injection e with e; omega)).trans ((HG1.out.block _ B0.lt (fun e => by cases e)).trans B0)
  clear hown2 hgrow2 hown1 hcells hnone hB0 B0 hgl
  go_wp2
  go_loopg [7] 3 (fun k v7 wr => ∃ j : Nat, k = 3 - j ∧ j ≤ 3 ∧ v7 = .int .i64 ((ds.length + j : Nat) : Int) ∧ Below w.heap.size w wr ∧ Blk wr w.heap.size #[.int .i64 71, .int .i64 0, .int .i64 0, .int .i64 0] 28 ∧ wr.rangeAt (w.heap.size + 1) 0 (fl (ds ++ List.replicate j f71)) ∧ wr.there (w.heap.size + 1) 0 ((ds.length + 3) * 4))
  case atStart => exact ⟨0, by omega, by omega, rfl, hb2, B2, by simpa using hr2, ht2⟩
  case round =>
    clear hb2 B2 hr2 ht2
    obtain ⟨j, hk, hj, rfl, hb2, B2, hr2, ht2⟩ := hrel
    have HK := Lib.hid hk
    clear hk
    by_cases hlt : j < 3
    · have hmid : wr.there (w.heap.size + 1) ((ds.length + j) * 4) 4 := fun i hi => by
        have := ht2 ((ds.length + j) * 4 + i) (by omega)
        rwa [Nat.zero_add] at this
      have hone : (#[.int .i64 71, .int .i64 0, .int .i64 0, .int .i64 0] : Array Value).all (·.oneCell') = true := ones_all rfl
      go_wp2_with (first | (refine load_blk B2 rfl rfl rfl Tryd.underlying28 rfl (by kernel_rfl) ?_) | (refine wpList_store_mid rfl 28 (.tmp 31) (.tmp 30) rfl (w.heap.size + 1) ((ds.length + j) * 4) #[.int .i64 71, .int .i64 0, .int .i64 0, .int .i64 0] rfl rfl hmid (by kernel_rfl) hone ?_))
      have S := setCells_stored wr (w.heap.size + 1) ((ds.length + j) * 4) [.int .i64 71, .int .i64 0, .int .i64 0, .int .i64 0]
      go_roundg (3 - (j + 1))
      case measure => have := HK.out; omega
      case rel =>
        refine ⟨j + 1, rfl, by omega, by go_num, S.below hb2 (Nat.le_succ _), S.blk B2 (by omega), ?_, World.there_setCells ht2 _ _ _⟩
        have e : fl (ds ++ List.replicate (j + 1) f71) = fl (ds ++ List.replicate j f71) ++ dcl f71 := by
          rw [List.replicate_succ', ← List.append_assoc, fl_app]
          simp [fl]
        rw [e]
        refine range_app (World.rangeAt_setCells_apart hr2 _ _ _ (.inr (.inl ?_))) ?_
        · rw [fl_len]; simp
        · have := World.rangeAt_setCells_same wr (w.heap.size + 1) ((ds.length + j) * 4) [.int .i64 71, .int .i64 0, .int .i64 0, .int .i64 0] hmid
          rw [fl_len]
          simpa [dcl, f71] using this
    · have hj3 : j = 3 := by omega
      subst hj3
      go_wp2
      go_ret
      exact ⟨_, rfl, Nat.le_succ _, hb2, dues_of_range hr2⟩
end Go.Proofs.YtkafeedmmghoeaaDoor.sam
