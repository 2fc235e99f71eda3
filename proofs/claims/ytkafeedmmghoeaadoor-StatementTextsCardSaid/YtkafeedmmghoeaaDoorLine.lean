/- WALKS: a statement's lines. -/
import Derived.Test.YtkafeedmmghoeaaDoorDec3
import Derived.Test.YtkafeedmmghoeaaDoorBld
import Derived.Deep.RegionWith
namespace Go.Proofs.YtkafeedmmghoeaaDoor.lin
open Go.RowKit Go.Lib base dec bld

theorem grown_none {w w1 : World} (h : Below w.heap.size w w1) : w.grownBy w1 none := ⟨h.os, h.tape, h.output, h.size, fun i hi _ => h.block i hi⟩
theorem Bld.below {w w1 : World} {B b o : Nat} {cs : Array Value} {T : TypeId} {l : List UInt8} (h : Bld w B b o cs T l) (hb : Below w.heap.size w w1) : Bld w1 B b o cs T l := by
  obtain ⟨hB, hbk, hT, hlies, h0, v, hv, hown⟩ := h
  refine ⟨hB, hbk.below hb, hT, hlies, h0, v, hv, hown.kept (grown_none hb) ?_⟩
  cases v.ownBlock <;> simp

theorem below_of_drew {w w1 : World} (h : Below w.drew.heap.size w.drew w1) : Below w.heap.size w w1 := ⟨h.os, h.tape, h.output, h.size, h.block⟩
theorem size_str (l : List UInt8) : (⟨l.toArray⟩ : ByteArray).size = l.length := by simp [ByteArray.size]
theorem map_str (xs : List (List UInt8)) : (xs.map fun x => (⟨x.toArray⟩ : ByteArray)).map (·.data.toList) = xs := by
  induction xs with
  | nil => rfl
  | cons x r ih => rw [List.map_cons, List.map_cons, ih]
theorem kept_below {w w1 : World} {e : TypeId} {b : Option Nat} (h : Below w.heap.size w w1) : Lib.OthersKept e b w w1 := by
  intro k o hk _ _
  have hlt := (Array.getElem?_eq_some_iff.1 hk).1
  rw [h.block k hlt]
  exact hk
/-- words with blanks between -/
def joined (xs : List (List UInt8)) : List UInt8 := Lib.join xs [32]

set_option maxHeartbeats 2000000 in
set_option maxRecDepth 100000 in
theorem line_any {w : World} {B b : Nat} {cs : Array Value} {l : List UInt8} (h : Bld w B b 0 cs 44 l) (bk c : Nat) (xs : List (List UInt8))
    (hc : ∀ (j : Nat) x, xs[j]? = some x → w.cell? ⟨bk, 0 + j, none⟩ = some (.string ⟨x.toArray⟩)) (hbk : bk < w.heap.size) (hcap : xs.length ≤ c) (hlen : xs.length ≤ 100)
    (hl : l.length + (joined xs).length ≤ 1000000000) (hBw : B ≤ w.heap.size) :
    Calls Tryd.prog 11 #[.pointer (some ⟨b, 0, none⟩), .slice (some ⟨bk, 0, none⟩) xs.length c] w fun e w' => e = .returned (.tuple #[]) ∧ ∃ v, Bld w' B b 0 (wrote cs b 0 v) 44 (l ++ (joined xs ++ [10])) ∧ Below B w w' ∧ Lib.OthersKept 5 (some b) w w' := by
  have hj := Tryd.strings_Join bk 0 c (xs.map fun x => (⟨x.toArray⟩ : ByteArray)) ⟨([32] : List UInt8).toArray⟩ w.drew (fun j x hx => by
    rw [List.getElem?_map] at hx
    obtain ⟨y, hy, rfl⟩ := Option.map_eq_some_iff.1 hx
    exact hc j y hy) hbk (by rw [List.length_map]; omega) (by rw [List.length_map]; exact hcap)
  have e1 : (xs.map fun x => (⟨x.toArray⟩ : ByteArray)).map (·.data.toList) = xs := map_str xs
  have e2 : (⟨([32] : List UInt8).toArray⟩ : ByteArray).data.toList = [32] := rfl
  rw [e1, e2, List.length_map] at hj
  rw [show Lib.join xs [32] = joined xs from rfl] at hj
  have hj := hj (by omega)
  clear e1 e2
  have hcat := cat_str
  have q1 : ¬ 9223372036854775807 < (joined xs).length + 1 := by omega
  go_enter Tryd.func11, Tryd.ntmps11
  go_wp2_with fail
  go_region_with (first
    | (go_at_call 22; refine hj.mono ?_; rintro e w1 ⟨rfl, hb1⟩; replace hb1 := below_of_drew hb1)
    | (go_at_call 21; refine (write_any (Bld.below h hb1) _ (by rw [size_str, List.length_append]; simp; omega) (Nat.le_trans hBw hb1.size)).mono ?_; rintro e w2 ⟨rfl, v, h2, hb2, hk2⟩))
  go_wp2
  all_goals go_end0
  exact ⟨rfl, v, h2, (hb1.mono hBw).trans hb2, (kept_below hb1).trans hk2⟩
end Go.Proofs.YtkafeedmmghoeaaDoor.lin
