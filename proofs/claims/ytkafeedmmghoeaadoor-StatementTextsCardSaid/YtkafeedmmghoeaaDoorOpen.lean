/- AN ARGUMENT OPENED: structs of one-cell fields, slices of such; a statement; what the row's list of variables gives. -/
import Derived.Test.YtkafeedmmghoeaaDoorCards
import Derived.Test.YtkafeedmmghoeaaDoorTie
import Derived.Test.YtkafeedmmghoeaaDoorLines
import Derived.ProofKit
import Derived.OpenShut
import Derived.Deep.DeepHandedRow
import Derived.Lib.LaidTab
import Derived.Deep.Slices
import Derived.Deep.Fields
import Derived.ChangeSame
import Derived.Carry
namespace Go.Proofs.YtkafeedmmghoeaaDoor.opn
open Go.ChangeShapes Go.WideShapes Go.ChangeAt Go.RowKit Go.Deep base dec txt lns

section
variable {H : Type} {enc : TypeId × Value → H} {P : Program} {w : World} {base : Nat} {spare : Nat → Bool} {held : Bool}
/-- a struct of one-cell fields, by value -/
theorem open_agg_fields {r : Reach} {b0 : Nat} {t : TypeId} {fs : Array Field} {v : Value} {d : DataW H} {p : List MemPlace} (hs : P.underlying t = some (.struct fs)) (hone : oneCellFields P fs = true) (hC : P.cellsOf t = fs.size)
    (hv : Value.okWide P w r b0 t v) (h : DataW.Trod enc P w base spare held t v d p) :
    ∃ (cs : List Value) (ys : List (DataW H × List MemPlace)) (n : Nat), v = .agg cs.toArray ∧ cs.length = fs.size ∧ ys.length = fs.size ∧ d = .agg (ys.map (·.1)) ∧ p = ys.flatMap (·.2) ∧
      ∀ (j : Nat) (f : Field), fs[j]? = some f → ∃ (u : Value) (y : DataW H × List MemPlace), cs[j]? = some u ∧ ys[j]? = some y ∧ DataW.trod enc P w base spare held n f.type [u] = some y := by
  obtain ⟨cs, rfl, hsz⟩ := okWide_struct hs hv
  obtain ⟨l⟩ := cs
  obtain ⟨fuel, hf⟩ := h
  obtain ⟨xs, n, _, hx, _, hlen, hg⟩ := DataW.trod_struct hs hf
  simp only [Prod.mk.injEq] at hx
  refine ⟨l, xs, n, rfl, by simpa [hC] using hsz, hlen, hx.1, hx.2, fun j f hj => ?_⟩
  obtain ⟨ho, hk⟩ := hone_of hone j f hj
  have hjl : j < fs.size := (Array.getElem?_eq_some_iff.1 hj).1
  have hl : l.length = fs.size := by simpa [hC] using hsz
  have h1 := hg j f hj
  rw [ho, hk] at h1
  have e : ((Value.agg l.toArray).cells.toList.drop j).take 1 = [l[j]'(by omega)] := by
    show (l.drop j).take 1 = _
    rw [List.drop_eq_getElem_cons (by omega)]
    rfl
  rw [e] at h1
  have hys : xs[j]? = some (xs[j]'(by omega)) := List.getElem?_eq_getElem (by omega)
  exact ⟨_, _, List.getElem?_eq_getElem (by omega), hys, h1.trans hys⟩
theorem open_slice_fields {t e : TypeId} {fs : Array Field} {fuel : Nat} {cs : List Value} {x : DataW H × List MemPlace} (ht : P.underlying t = some (.slice e)) (he : P.underlying e = some (.struct fs))
    (hone : oneCellFields P fs = true) (hC : P.cellsOf e = fs.size) (h : DataW.trod enc P w base spare held fuel t cs = some x) :
    (cs = [.slice none 0 0] ∧ x = (.nil, [])) ∨
    ∃ (a : Addr) (len cap m : Nat) (D : Nat → DataW H) (Pl : Nat → List MemPlace), cs = [.slice (some a) len cap] ∧ base ≤ a.block ∧ len ≤ cap ∧ cap ≤ maxLen ∧ m = (if spare a.block then cap else len) ∧
      x = (.slice ((List.range len).map D) ((List.range (m - len)).map fun j => D (len + j)), MemPlace.row a (m * fs.size) ++ (List.range m).flatMap Pl) ∧
      ∀ i, i < m → ∃ (ys : List (DataW H × List MemPlace)) (n : Nat), D i = .agg (ys.map (·.1)) ∧ Pl i = ys.flatMap (·.2) ∧ ys.length = fs.size ∧
        ∀ (j : Nat) (f : Field), fs[j]? = some f → ∃ (v : Value) (y : DataW H × List MemPlace), w.cell? (a.add (i * fs.size + j)) = some v ∧ ys[j]? = some y ∧ DataW.trod enc P w base spare held n f.type [v] = some y := by
  rcases open_slice ht h with h0 | ⟨a, len, cap, m, n, D, Pl, hcs, hb, hl, hm, hmm, hx, hi⟩
  · exact .inl h0
  · refine .inr ⟨a, len, cap, m, D, Pl, hcs, hb, hl, hm, hmm, by rw [hC] at hx; exact hx, fun i him => ?_⟩
    obtain ⟨cs', hc, ht'⟩ := hi i him
    rw [hC] at hc
    obtain ⟨ys, n', hn', hy, hlen, hyl, hf⟩ := DataW.trod_struct he ht'
    obtain ⟨_, hcl, hat⟩ := World.cells?_some hc
    simp only [Prod.mk.injEq] at hy
    refine ⟨ys, n', hy.1, hy.2, hyl, fun j f hj => ?_⟩
    obtain ⟨ho, hk⟩ := hone_of hone j f hj
    have hjl : j < fs.size := (Array.getElem?_eq_some_iff.1 hj).1
    have hcell := hat j hjl
    have hv : cs'[j]? = some (cs'[j]'(by omega)) := List.getElem?_eq_getElem (by omega)
    have h1 := hf j f hj
    rw [ho, hk] at h1
    have hone' : (cs'.drop j).take 1 = [cs'[j]'(by omega)] := by
      rw [List.drop_eq_getElem_cons (by omega)]
      rfl
    rw [hone'] at h1
    have hys : ys[j]? = some (ys[j]'(by omega)) := List.getElem?_eq_getElem (by omega)
    refine ⟨_, _, ?_, hys, h1.trans hys⟩
    rw [← Go.Deep.add_add, hcell, hv]
end

theorem exists_list {α : Type} {Q : Nat → α → Prop} : ∀ n : Nat, (∀ i, i < n → ∃ x, Q i x) → ∃ l : List α, l.length = n ∧ ∀ (i : Nat) (x : α), l[i]? = some x → Q i x
  | 0, _ => ⟨[], rfl, fun i x h => by simp at h⟩
  | n + 1, h => by
    obtain ⟨l, hl, hq⟩ := exists_list n (fun i hi => h i (by omega))
    obtain ⟨x, hx⟩ := h n (by omega)
    refine ⟨l ++ [x], by simp [hl], fun i y hy => ?_⟩
    by_cases hi : i < n
    · rw [List.getElem?_append_left (by omega)] at hy
      exact hq i y hy
    · have : i = n := by
        have := (List.getElem?_eq_some_iff.1 hy).1
        simp [hl] at this; omega
      subst this
      rw [List.getElem?_append_right (by omega), hl] at hy
      simp at hy
      subst hy
      exact hx
theorem fit_of {n : Int} (h : (Lit.int .i64 n).wf = true) : Fit n := by
  have := bounds_i64 h
  exact this

section
variable {H : Type} {enc : TypeId × Value → H} {w : World} {base : Nat} {spare : Nat → Bool} {held : Bool}
theorem open_dues {fuel : Nat} {u : Value} {x : DataW H × List MemPlace} (h : DataW.trod enc Tryd.prog w base spare held fuel 22 [u] = some x) :
    ∃ (A : Option Addr) (ds : List Due) (c : Nat), u = .slice A ds.length c ∧ DuesAt w A ds ∧ (∀ d ∈ ds, DueFit d) ∧ ds.length ≤ maxLen ∧ (A = none → c = 0) := by
  rcases open_slice_fields Tryd.underlying22 Tryd.underlying28 (by kernel_rfl) (by kernel_rfl) h with ⟨hcs, _⟩ | ⟨a, len, cap, m, D, Pl, hcs, _, hlc, hcm, hm, _, hi⟩
  · have hu : u = .slice none 0 0 := by simpa using hcs
    exact ⟨none, [], 0, hu, .inl rfl, (fun _ h => by cases h), Nat.zero_le _, fun _ => rfl⟩
  · have hu : u = .slice (some a) len cap := by simpa using hcs
    have hlm : len ≤ m := by rw [hm]; split <;> omega
    have hex : ∀ i, i < len → ∃ d : Due, DueFit d ∧ w.cell? (a.add (i * 4)) = some (.int .i64 d.n) ∧ w.cell? (a.add (i * 4 + 1)) = some (.int .i64 d.day) ∧ w.cell? (a.add (i * 4 + 2)) = some (.int .i64 d.int) ∧ w.cell? (a.add (i * 4 + 3)) = some (.int .i64 d.prin) := by
      intro i hil
      obtain ⟨ys, n, _, _, _, hf⟩ := hi i (by omega)
      obtain ⟨v0, y0, c0, _, t0⟩ := hf 0 _ rfl
      obtain ⟨v1, y1, c1, _, t1⟩ := hf 1 _ rfl
      obtain ⟨v2, y2, c2, _, t2⟩ := hf 2 _ rfl
      obtain ⟨v3, y3, c3, _, t3⟩ := hf 3 _ rfl
      obtain ⟨n0, e0, _, w0⟩ := DataW.trod_int Tryd.underlying3 t0
      obtain ⟨n1, e1, _, w1⟩ := DataW.trod_int Tryd.underlying3 t1
      obtain ⟨n2, e2, _, w2⟩ := DataW.trod_int Tryd.underlying2 t2
      obtain ⟨n3, e3, _, w3⟩ := DataW.trod_int Tryd.underlying2 t3
      simp only [List.cons.injEq, and_true] at e0 e1 e2 e3
      subst e0 e1 e2 e3
      exact ⟨⟨n0, n1, n2, n3⟩, ⟨fit_of w0, fit_of w1, fit_of w2, fit_of w3⟩, c0, c1, c2, c3⟩
    obtain ⟨ds, hlen, hds⟩ := exists_list len hex
    subst hlen
    refine ⟨some a, ds, cap, hu, ?_, ?_, by omega, fun h => by cases h⟩
    · rcases Nat.eq_zero_or_pos ds.length with h0 | h0
      · exact .inl (List.eq_nil_of_length_eq_zero h0)
      · obtain ⟨bk, o, sp⟩ := a
        have hsp : sp = none := by
          obtain ⟨_, c0, _⟩ := hds 0 _ (List.getElem?_eq_getElem h0)
          cases sp with
          | none => rfl
          | some z =>
            simp [Addr.add, World.cell?] at c0
            split at c0 <;> simp at c0
        subst hsp
        refine .inr ⟨bk, o, rfl, fun j d hj => ?_⟩
        obtain ⟨_, c0, c1, c2, c3⟩ := hds j d hj
        rw [Lib.add_plain] at c0 c1 c2 c3
        exact ⟨c0, by rw [Nat.add_assoc]; exact c1, by rw [Nat.add_assoc]; exact c2, by rw [Nat.add_assoc]; exact c3⟩
    · intro d hd
      obtain ⟨j, hj, rfl⟩ := List.getElem_of_mem hd
      exact (hds j _ (List.getElem?_eq_getElem hj)).1

set_option maxRecDepth 100000 in
theorem open_statement {v : Value} {d : DataW H} {p : List MemPlace} (hv : Value.okWide Tryd.prog w .any base 24 v) (h : DataW.Trod enc Tryd.prog w 0 spare held 24 v d p) :
    ∃ (s : St) (A : Option Addr) (c : Nat), v = .agg #[.int .i64 s.day, .bool s.opn, .bool s.cld, .int .i64 s.prin, .int .i64 s.acc, .int .i64 s.int, .int .i64 s.due, .int .i64 s.pen, .int .i64 s.fees, .int .i64 s.una, .slice A s.dues.length c, .int .i64 s.next, .int .i64 s.nday] ∧ StFit s ∧ DuesAt w A s.dues ∧ s.dues.length ≤ 9223372036854775807 ∧ (A = none → c = 0) := by
  obtain ⟨cs, ys, n, rfl, hcl, _, _, _, hf⟩ := open_agg_fields Tryd.underlying24 (by kernel_rfl) (by kernel_rfl) hv h
  match cs, hcl with
  | [c0, c1, c2, c3, c4, c5, c6, c7, c8, c9, c10, c11, c12], _ =>
    obtain ⟨u0, y0, g0, _, t0⟩ := hf 0 _ rfl
    obtain ⟨u1, y1, g1, _, t1⟩ := hf 1 _ rfl
    obtain ⟨u2, y2, g2, _, t2⟩ := hf 2 _ rfl
    obtain ⟨u3, y3, g3, _, t3⟩ := hf 3 _ rfl
    obtain ⟨u4, y4, g4, _, t4⟩ := hf 4 _ rfl
    obtain ⟨u5, y5, g5, _, t5⟩ := hf 5 _ rfl
    obtain ⟨u6, y6, g6, _, t6⟩ := hf 6 _ rfl
    obtain ⟨u7, y7, g7, _, t7⟩ := hf 7 _ rfl
    obtain ⟨u8, y8, g8, _, t8⟩ := hf 8 _ rfl
    obtain ⟨u9, y9, g9, _, t9⟩ := hf 9 _ rfl
    obtain ⟨u10, y10, g10, _, t10⟩ := hf 10 _ rfl
    obtain ⟨u11, y11, g11, _, t11⟩ := hf 11 _ rfl
    obtain ⟨u12, y12, g12, _, t12⟩ := hf 12 _ rfl
    simp only [List.getElem?_cons_zero, List.getElem?_cons_succ, Option.some.injEq] at g0 g1 g2 g3 g4 g5 g6 g7 g8 g9 g10 g11 g12
    subst g0 g1 g2 g3 g4 g5 g6 g7 g8 g9 g10 g11 g12
    obtain ⟨n0, e0, _, w0⟩ := DataW.trod_int Tryd.underlying3 t0
    obtain ⟨n3, e3, _, w3⟩ := DataW.trod_int Tryd.underlying2 t3
    obtain ⟨n4, e4, _, w4⟩ := DataW.trod_int Tryd.underlying2 t4
    obtain ⟨n5, e5, _, w5⟩ := DataW.trod_int Tryd.underlying2 t5
    obtain ⟨n6, e6, _, w6⟩ := DataW.trod_int Tryd.underlying2 t6
    obtain ⟨n7, e7, _, w7⟩ := DataW.trod_int Tryd.underlying2 t7
    obtain ⟨n8, e8, _, w8⟩ := DataW.trod_int Tryd.underlying2 t8
    obtain ⟨n9, e9, _, w9⟩ := DataW.trod_int Tryd.underlying2 t9
    obtain ⟨n11, e11, _, w11⟩ := DataW.trod_int Tryd.underlying3 t11
    obtain ⟨n12, e12, _, w12⟩ := DataW.trod_int Tryd.underlying3 t12
    obtain ⟨b1, e1, _⟩ := DataW.trod_bool Tryd.underlying4 t1
    obtain ⟨b2, e2, _⟩ := DataW.trod_bool Tryd.underlying4 t2
    obtain ⟨A, ds, c, e10, hd, hdf, hdl, hdc⟩ := open_dues t10
    simp only [List.cons.injEq, and_true] at e0 e1 e2 e3 e4 e5 e6 e7 e8 e9 e11 e12
    subst e0 e1 e2 e3 e4 e5 e6 e7 e8 e9 e10 e11 e12
    exact ⟨⟨n0, b1, b2, n3, n4, n5, n6, n7, n8, n9, ds, n11, n12⟩, A, c, rfl, ⟨fit_of w0, fit_of w3, fit_of w4, fit_of w5, fit_of w6, fit_of w7, fit_of w8, fit_of w9, hdf, fit_of w11, fit_of w12⟩, hd, (by unfold maxLen at hdl; exact hdl), hdc⟩
end

set_option maxRecDepth 100000 in
/-- what the row's list gives: the table of powers of ten lies in memory -/
theorem tab_of {W : World} (h : laidMetH Tryd.prog [("math/bits.deBruijn32tab", Rows.laid_math_bits_deBruijn32tab), ("math/bits.deBruijn64tab", Rows.laid_math_bits_deBruijn64tab), ("internal/strconv.uint64pow10", Rows.laid_internal_strconv_uint64pow10)] W) : Tab W := by
  have h' : laidMet Tryd.prog [("math/bits.deBruijn32tab", Rows.laid_math_bits_deBruijn32tab), ("math/bits.deBruijn64tab", Rows.laid_math_bits_deBruijn64tab), ("internal/strconv.uint64pow10", Rows.laid_internal_strconv_uint64pow10)] W := h
  obtain ⟨ps, ⟨_, _, _, _, _, _, _, _, _, _, ⟨_, _, _, _, _, _, _, _, _, _, ⟨g', t', cs, fuel, p, q, hg', ht', hvar, hd, _, _⟩, _⟩, _⟩, _⟩ := h'
  have hg : Tryd.prog.globalNamed "internal/strconv.uint64pow10" = some 0 := by kernel_rfl
  obtain rfl := Option.some.inj (hg.symm.trans hg')
  have hty : (Tryd.prog.globals[0]?).map (·.type) = some 108 := by kernel_rfl
  obtain rfl := Option.some.inj (hty.symm.trans ht')
  unfold Tab Lib.TabIs
  rw [hvar, ← Lib.cells_of_tab Tryd.underlying108 Tryd.underlying60 (by kernel_rfl) (by kernel_rfl) hd]
end Go.Proofs.YtkafeedmmghoeaaDoor.opn
