/- WALKS: strings.Builder, a part of whatever block of memory: copyCheck, WriteString, Len, String. -/
import Derived.Test.YtkafeedmmghoeaaDoorBase
import Derived.Test.YtkafeedmmghoeaaDoorShelf
import Derived.Lib.Builder
import Derived.Lib.OthersKept
import Derived.Lib.AppendStr
import Derived.Lib.FrozenHead
namespace Go.Proofs.YtkafeedmmghoeaaDoor.bld
open Go.RowKit Go.Lib base

/-- a strings.Builder at place o of block b; what it holds -/
structure Bld (w : World) (B b o : Nat) (cs : Array Value) (T : TypeId) (l : List UInt8) : Prop where
  hB : B ≤ b
  blk : Blk w b cs T
  hT : T ≠ 5
  lies : liesAt Tryd.prog Tryd.prog.depth T (cs.size / Tryd.prog.cellsOf T) o 42 1 = true
  at0 : cs[o]? = some (.pointer none) ∨ cs[o]? = some (.pointer (some ⟨b, o, none⟩))
  at1 : ∃ v, cs[o + 1]? = some v ∧ w.ownsRowF B 5 1 v l.length (Lib.byteCells l)

theorem row_ne {w : World} {B b n : Nat} {v : Value} {cs : Array Value} {T : TypeId} {l : List Value} (h : w.ownsRowF B 5 1 v n l) (hb : Blk w b cs T) (hT : T ≠ 5) : v.ownBlock ≠ some b :=
  ownBlock_neF h hb hT

theorem shape_of {w : World} {b : Nat} {cs : Array Value} {T : TypeId} (h : Blk w b cs T) : w.shape? b = some (T, cs.size) := by
  unfold Blk at h; simp [World.shape?, h]

set_option maxHeartbeats 1000000 in
set_option maxRecDepth 100000 in
theorem check_used (b o : Nat) (w : World) (h0 : w.cell? ⟨b, o, none⟩ = some (.pointer (some ⟨b, o, none⟩))) :
    Calls Tryd.prog 34 #[.pointer (some ⟨b, o, none⟩)] w fun e w' => e = .returned (.tuple #[]) ∧ w' = w := by
  obtain ⟨j, hj, _⟩ := Option.map_eq_some_iff.1 (show (Tryd.prog.info? 42).map (·.size) = some 2 by kernel_rfl)
  go_enter Tryd.func34, Tryd.ntmps34
  go_wp2
  rw [Lib.run_neq_ptr_same w _ Tryd.underlying39 hj]
  go_wp2
  go_end0
  exact ⟨rfl, rfl⟩

set_option maxHeartbeats 1000000 in
set_option maxRecDepth 100000 in
theorem check_fresh (b o : Nat) (w : World) (cs : Array Value) (T : TypeId) (hbk : Blk w b cs T) (h0 : cs[o]? = some (.pointer none))
    (hl : liesAt Tryd.prog Tryd.prog.depth T (cs.size / Tryd.prog.cellsOf T) o 42 1 = true) :
    Calls Tryd.prog 34 #[.pointer (some ⟨b, o, none⟩)] w fun e w' => e = .returned (.tuple #[]) ∧ w' = w.setCell ⟨b, o, none⟩ (.pointer (some ⟨b, o, none⟩)) := by
  obtain ⟨j, hj, hjs⟩ := Option.map_eq_some_iff.1 (show (Tryd.prog.info? 42).map (·.size) = some 2 by kernel_rfl)
  have hlt : o < cs.size := by
    rcases Nat.lt_or_ge o cs.size with h | h
    · exact h
    · rw [Array.getElem?_eq_none h] at h0; cases h0
  have c0 := hbk.cell o _ h0
  have hfz := hbk.frozen o
  have hsh := shape_of hbk
  have tu := Tryd.underlying84
  go_enter Tryd.func34, Tryd.ntmps34
  go_wp2
  rw [Lib.run_to_unsafe w ⟨b, o, none⟩ Tryd.underlying39 tu hj (by rw [hjs]; decide) hsh hlt]
  simp only [Result.andThen]
  rw [Oper.upon_value]
  go_wp2
  rw [run_callFunc_extern Tryd.func45 (by kernel_rfl) (by kernel_rfl) (by kernel_rfl) (e := Extern.AbiNoEscape.same) (by kernel_rfl)]
  rw [Lib.run_noEscape]
  simp only [Result.andThen]
  rw [Oper.upon_value]
  go_wp2
  rw [Lib.run_from_unsafe w ⟨b, o, none⟩ tu Tryd.underlying39 hj hsh hl]
  simp only [Result.andThen]
  rw [Oper.upon_value]
  go_wp2
  go_end0
  exact ⟨rfl, rfl⟩

theorem set_get_ne {cs : Array Value} {i j : Nat} {v : Value} (h : i ≠ j) : (cs.setIfInBounds i v)[j]? = cs[j]? := by
  rw [Array.getElem?_setIfInBounds_ne h]
theorem set_get_same {cs : Array Value} {i : Nat} {v u : Value} (h : cs[i]? = some u) : (cs.setIfInBounds i v)[i]? = some v := by
  have hlt : i < cs.size := by
    rcases Nat.lt_or_ge i cs.size with h' | h'
    · exact h'
    · rw [Array.getElem?_eq_none h'] at h; cases h
  simp [hlt]

set_option maxHeartbeats 1000000 in
theorem check_any {w : World} {B b o : Nat} {cs : Array Value} {T : TypeId} {l : List UInt8} (h : Bld w B b o cs T l) :
    Calls Tryd.prog 34 #[.pointer (some ⟨b, o, none⟩)] w fun e w' => e = .returned (.tuple #[]) ∧ Bld w' B b o (cs.setIfInBounds o (.pointer (some ⟨b, o, none⟩))) T l ∧ Below B w w' ∧ Lib.OthersKept 5 (some b) w w' := by
  obtain ⟨hB, hbk, hT, hl, h0, v, h1, hown⟩ := h
  rcases h0 with h0 | h0
  · refine (check_fresh b o w cs T hbk h0 hl).mono ?_
    rintro e w' ⟨rfl, rfl⟩
    refine ⟨rfl, ⟨hB, hbk.set o _, hT, by simpa using hl, .inr (set_get_same h0), v, by rw [set_get_ne (by omega)]; exact h1, ?_⟩, (Below.refl B w).setCell (p := ⟨b, o, none⟩) hB _, (Lib.OthersKept.refl _ _ w).setCell ⟨b, o, none⟩ rfl _⟩
    exact hown.kept (row := some b) ⟨rfl, rfl, rfl, by simp, fun k _ hk => Below.heap_setCell w ⟨b, o, none⟩ _ k (fun e => hk (by rw [e]))⟩ (.inr (row_ne hown hbk hT))
  · refine (check_used b o w (hbk.cell o _ h0)).mono ?_
    rintro e w' ⟨rfl, rfl⟩
    have e1 : cs.setIfInBounds o (.pointer (some ⟨b, o, none⟩)) = cs := by
      apply Array.ext_getElem?
      intro i
      by_cases hi : o = i
      · subst hi; rw [set_get_same h0, h0]
      · rw [set_get_ne hi]
    rw [e1]
    exact ⟨rfl, ⟨hB, hbk, hT, hl, .inr h0, v, h1, hown⟩, Below.refl B _, Lib.OthersKept.refl _ _ _⟩

/-- the builder's cells behind a write -/
def wrote (cs : Array Value) (b o : Nat) (v : Value) : Array Value := (cs.setIfInBounds o (.pointer (some ⟨b, o, none⟩))).setIfInBounds (o + 1) v

set_option maxHeartbeats 2000000 in
set_option maxRecDepth 100000 in
theorem write_any {w : World} {B b o : Nat} {cs : Array Value} {T : TypeId} {l : List UInt8} (h : Bld w B b o cs T l) (s : ByteArray) (hlen : l.length + s.size ≤ 140737488355328) (hBw : B ≤ w.heap.size) :
    Calls Tryd.prog 21 #[.pointer (some ⟨b, o, none⟩), .string s] w fun e w' => e = .returned (.tuple #[.int .i64 s.size, .nilIface]) ∧ ∃ v, Bld w' B b o (wrote cs b o v) T (l ++ s.data.toList) ∧ Below B w w' ∧ Lib.OthersKept 5 (some b) w w' := by
  obtain ⟨i0, hi, hz0, hz1, hz2⟩ := info_parts (show (Tryd.prog.info? 5).map (fun i => (i.zero, i.size, i.bytes)) = some (some (.int .u8 0), 1, 1) by kernel_rfl)
  go_enter Tryd.func21, Tryd.ntmps21
  go_wp2_with fail
  go_call (check_any h) as _ w1 ⟨rfl, h1, hb1, hk1⟩
  obtain ⟨hB, hbk, hT, hl, h0, v, hv, hown⟩ := h1
  have c1 := hbk.cell (o + 1) _ hv
  have hne := row_ne hown hbk hT
  go_wp2_with (at_builtin; refine Lib.wpList_append_own_stringF _ rfl _ _ 40 9 rfl B 5 i0 Tryd.underlying40 Tryd.underlying9 hi hz0 hz1 hz2 _ _ _ rfl hown s rfl ?c3 ?c4 ?c5 ?_)
  case c3 => unfold maxLen; omega
  case c4 => omega
  case c5 => have := hb1.size; omega
  intro v' w2 hown' hgrow _
  have hb2 : Blk w2 b (cs.setIfInBounds o (.pointer (some ⟨b, o, none⟩))) T := (hgrow.block b hbk.lt (fun e => hne e.symm)).trans hbk
  have d1 := hb2.cell (o + 1) _ hv
  have f1 := hb2.frozen (o + 1)
  obtain ⟨ao, n', cap, rfl⟩ : ∃ ao n' cap, v' = .slice ao n' cap := by
    rcases hown'.2 with ⟨hv, _⟩ | ⟨g, cap, cur, fz, hv, _⟩
    · exact ⟨_, _, _, hv⟩
    · exact ⟨_, _, _, hv⟩
  have H1 := Lib.hid hv
  clear hv c1
  go_wp2
  go_ret2
  have hb' : Below B w w2 := hb1.grown hgrow (by have := hb1.size; omega) (fun k hk => (hown.lt k hk).1)
  refine ⟨rfl, .slice ao n' cap, ⟨hB, hb2.set (o + 1) _, hT, by unfold wrote; simpa using hl, ?_, .slice ao n' cap, set_get_same H1.out, ?_⟩, hb'.setCell (p := ⟨b, o + 1, none⟩) hB _, (hk1.grown hgrow (Lib.ownsRowF_kind hown)).setCell ⟨b, o + 1, none⟩ rfl _⟩
  · unfold wrote
    rw [set_get_ne (by omega)]
    exact h0
  · have hne' := row_ne hown' hb2 hT
    have := hown'.kept (w' := w2.setCell ⟨b, o + 1, none⟩ (.slice ao n' cap)) (row := some b) ⟨rfl, rfl, rfl, by simp, fun k _ hk => Below.heap_setCell w2 ⟨b, o + 1, none⟩ _ k (fun e => hk (by rw [e]))⟩ (.inr hne')
    have e1 : Lib.byteCells (l ++ s.data.toList) = Lib.byteCells l ++ Lib.strCells s := by unfold Lib.byteCells Lib.strCells; rw [List.map_append]
    have e2 : (l ++ s.data.toList).length = l.length + s.size := by rw [List.length_append, Array.length_toList]; rfl
    rw [e1, e2]
    exact this


set_option maxHeartbeats 1000000 in
theorem len_any {w : World} {B b o : Nat} {cs : Array Value} {T : TypeId} {l : List UInt8} (h : Bld w B b o cs T l) :
    Calls Tryd.prog 52 #[.pointer (some ⟨b, o, none⟩)] w fun e w' => e = .returned (.int .i64 l.length) ∧ w' = w := by
  obtain ⟨hB, hbk, hT, hl, h0, v, hv, hown⟩ := h
  have c1 := hbk.cell (o + 1) _ hv
  clear hv
  obtain ⟨ao, cap, rfl⟩ : ∃ ao cap, v = .slice ao l.length cap := by
    rcases hown.2 with ⟨hv, h0⟩ | ⟨g, cap, cur, fz, hv, _⟩
    · rw [h0]; exact ⟨_, _, hv⟩
    · exact ⟨_, _, hv⟩
  go_enter Tryd.func52, Tryd.ntmps52
  go_wp2
  go_ret
  exact ⟨rfl, rfl⟩

set_option maxHeartbeats 2000000 in
set_option maxRecDepth 100000 in
theorem string_any {w : World} {B b o : Nat} {cs : Array Value} {T : TypeId} {l : List UInt8} (h : Bld w B b o cs T l) (h0 : l ≠ []) :
    Calls Tryd.prog 15 #[.pointer (some ⟨b, o, none⟩)] w fun e w' => e = .returned (.string ⟨l.toArray⟩) ∧ Below B w w' := by
  obtain ⟨hB, hbk, hT, hlies, _, v, hv, hown⟩ := h
  have hl0 : l.length ≠ 0 := by simpa using h0
  obtain ⟨g, cap, cur, fz, rfl, hbg, hg, hfz, hnc, hcm, hcs, htake⟩ : ∃ g cap cur fz, v = .slice (some ⟨g, 0, none⟩) l.length cap ∧ B ≤ g ∧ w.heap[g]? = some (.cells cur 5 fz) ∧ fz.2 ≤ l.length * 1 ∧ l.length ≤ cap ∧ cap ≤ maxLen ∧ cur.size = cap * 1 ∧ cur.toList.take (l.length * 1) = Lib.byteCells l := by
    rcases hown.2 with ⟨_, hz⟩ | ⟨g, cap, cur, fz, hv, r⟩
    · exact absurd hz hl0
    · exact ⟨g, cap, cur, fz, hv, r⟩
  have c1 : w.drew.cell? ⟨b, o + 1, none⟩ = some (.slice (some ⟨g, 0, none⟩) l.length cap) := hbk.drew.cell (o + 1) _ hv
  clear hv
  have hSD : (Builtin.unsafeSliceData_ #[40] 64 #[.slice (some ⟨g, 0, none⟩) l.length cap]).run Tryd.prog w.drew = .ok (.pointer (some ⟨g, 0, none⟩)) w.drew :=
    Lib.run_unsafeSliceData_row _ _ _ _ _ _ (by omega)
  have hUS : (Builtin.unsafeString_ #[64, 3] 9 #[.pointer (some ⟨g, 0, none⟩), .int .i64 l.length]).run Tryd.prog w.drew = .ok (.string ⟨l.toArray⟩) (w.drew.freeze ⟨g, 0, none⟩ l.length) := by
    refine Lib.run_unsafeString_row w.drew 64 3 9 5 Tryd.underlying64 (by kernel_rfl) g cur.size (by have hg' : w.drew.heap[g]? = some (.cells cur 5 fz) := hg; simp [World.shape?, hg']) l h0 (by omega) (by unfold maxLen at hcm; omega) ?_
    intro j x hx
    have := hown.cells (g := g) rfl j (.int .u8 x.toNat) (by simp [Lib.byteCells, hx])
    exact this
  go_enter Tryd.func15, Tryd.ntmps15
  go_wp2
  go_region
  all_goals (go_wp2; go_ret; exact ⟨rfl, Lib.below_freeze (Below.drew (Below.refl B w)) (p := ⟨g, 0, none⟩) hbg _⟩)
end Go.Proofs.YtkafeedmmghoeaaDoor.bld
