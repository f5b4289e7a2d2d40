/- Bundle VK. -/
import Derived.Test.YtoinlkdmfclnbaaGreatDoorRows
import Derived.WalkKit
import Derived.ProofKit
import Derived.OpenShut
import Derived.ShutString
import Derived.ChangeOld
import Derived.Below
import Derived.Test.YtoinlkdmfclnbaaGreatDoorTie
import Derived.Test.YtoinlkdmfclnbaaGreatDoorCards
import Derived.LaidMore
import Derived.Stop.LaidErr
import Derived.SizedLaws
import Derived.SevenTiedAt
import Derived.Shelf.Vars
import Derived.Deep.Matrix
import Derived.Lib.SmallJoins
import Derived.SliceStrings
import Derived.Test.YtoinlkdmfclnbaaGreatDoorZP
import Derived.Test.YtoinlkdmfclnbaaGreatDoorZV18
import Derived.Test.YtoinlkdmfclnbaaGreatDoorZV5
import Derived.Test.YtoinlkdmfclnbaaGreatDoorZVF
namespace Go.Proofs.YtoinlkdmfclnbaaGreatDoor
open Go.ChangeShapes Go.WideShapes Go.ChangeAt Go.RowKit
open Go.ChangeMaps (open_string shut_string)

theorem own : ownKnob Tryz.prog.godebug = none := by kernel_rfl
theorem laidOut : laidOutB Tryz.prog = true := by kernel_rfl

/-- A slice of integers that came in, as a list. -/
theorem rd_of_trod {H : Type} {enc : TypeId × Value → H} {W : World} {a : Option Addr} {len cap : Nat} {d : DataW H} {p : List MemPlace} {held : Bool}
    (h : DataW.Trod enc Tryz.prog W 0 (fun _ => true) held 23 (.slice a len cap) d p) : ∃ xs, Rd W W.heap.size a len cap xs := by
  obtain ⟨fuel, hf⟩ := h
  rcases open_ints Tryz.underlying23 Tryz.underlying3 (by kernel_rfl) hf with ⟨hcs, _⟩ | ⟨x, l, c, zs, hcs, _, hl, hm, hz, _, hcell, hwz⟩
  · simp [Value.cells] at hcs
    obtain ⟨rfl, rfl, rfl⟩ := hcs
    exact ⟨[], Rd.nil_ _ _⟩
  · simp [Value.cells] at hcs
    obtain ⟨rfl, rfl, rfl⟩ := hcs
    have hz' : zs.length = cap := by simpa using hz
    refine ⟨zs.take len, by rw [List.length_take]; omega, hl, hm, fun hn => ?_⟩
    obtain ⟨b, off, spot⟩ := x
    have hc := hcell 0 (by omega)
    have hspot : spot = none := by simpa [Addr.add] using World.cell?_spot hc
    subst hspot
    have hb : b < W.heap.size := by
      have := World.block_lt_of_cell? W _ hc
      simpa [Addr.add] using this
    refine ⟨b, off, rfl, hb, fun k hk => ?_⟩
    have hck := hcell k (by omega)
    rw [Addr.add_lit] at hck
    rw [hck]
    have e1 : k < (zs.take len).length := by rw [List.length_take]; omega
    simp [gI, List.getD, hk]
end Go.Proofs.YtoinlkdmfclnbaaGreatDoor
namespace Go.Proofs.YtoinlkdmfclnbaaGreatDoor
open Go.ChangeShapes Go.WideShapes Go.ChangeAt Go.RowKit
set_option linter.unusedVariables false
variable {H : Type} {enc : TypeId × Value → H}

/-- The builder for a row that lists variables, the world's shape handed on. -/
theorem returns_laid_shaped {a : Assume} {C : Checked} {os : Os} {f : FuncId} {fn : Func} {s : ChangeSpec} {conds : List PathCond} {apart fresh handsOn again : Bool} {X : World → Array Value → Prop}
    (hX : ∀ (w w' : World) (args : Array Value), w.heap = w'.heap → X w args → X w' args)
    (own : ownKnob C.prog.godebug = none) (started : os.Started) (noInit : C.prog.inits.idxOf? f = none) (hfn : C.prog.funcs[f]? = some fn)
    (witness : ∃ (w : World) (tape : Tape) (i : Input), w.os = os ∧ (w.forCall tape i).Shaped C.prog ∧ i.vars = [] ∧ Input.okWide C.prog (w.forCall tape i) .any w.heap.size f i ∧
      ((s.pre enc C.prog fn conds apart (w.forCall tape i).memory i.args ∧ X (w.forCall tape i).memory i.args) ∧ sizedMet enc C.prog fn (OpenSpec.ofChange s) apart (w.forCall tape i).memory i.args) ∧ a.holds C.prog (lone (Frame.enter C.prog f i.args .normal) [] (w.forCall tape i)))
    (contract : ∀ (W : World) (base : Nat) (args : Array Value) (ds gs : List (DataW H)) (before : List MemPlace),
      (∀ (j : Nat) t v, fn.params[j]? = some t → args[j]? = some v → Value.okWide C.prog W .any base t v) →
      DataW.Whole enc C.prog fn.params.toList s.vars apart W args.toList ds gs before →
      X W args → W.ShapedOpen C.prog →
      Calls C.prog f args W fun e W' => ∃ v, e = .returned v ∧ s.post enc C.prog fn apart fresh handsOn again W args v W') :
    ReturnsInHanded a C os f .any (fun w args => (s.pre enc C.prog fn conds apart w args ∧ X w args) ∧ sizedMet enc C.prog fn (OpenSpec.ofChange s) apart w args) (s.post enc C.prog fn apart fresh handsOn again) := by
  refine returnsInHanded_of_calls own started noInit witness ?_
  intro w tape i _ hsh _ hok hpre _
  obtain ⟨_, _, _, fn', hfn', _, _, _, _, hval⟩ := hok
  have e : fn' = fn := Option.some.inj (hfn'.symm.trans hfn)
  subst e
  obtain ⟨⟨⟨ds, gs, before, hw, hc⟩, hx⟩, hz⟩ := hpre
  have hw' := DataW.Whole.of_heap (w' := w.forCall tape i) (by rfl) hw
  refine (contract (w.forCall tape i) w.heap.size i.args ds gs before hval hw' (hX _ _ _ (by rfl) hx) hsh).mono fun e W' ⟨v, he, hp⟩ => ?_
  subst he
  exact ChangeSpec.post_blind hp

theorem pow_data {H : Type} : (Rows.laid_internal_strconv_uint64pow10 : DataW H) = Lib.tabData .u64 Lib.pow10Tab := by rfl
theorem six_of {W : World} (h : W.ShapedOpen Tryz.prog) : 6 ≤ W.heap.size := by
  obtain ⟨⟨zero, t⟩, hz⟩ : ∃ z, (((begin Tryz.prog (fun _ _ => 0) default).world.heap[5]?).bind Obj.row?) = some z := Option.isSome_iff_exists.1 (by kernel_rfl)
  obtain ⟨cs, h1, _⟩ := h.1 5 zero t (of_decide_eq_true (by kernel_rfl)) hz
  exact (Array.getElem?_eq_some_iff.1 h1).1
theorem tb_of {W : World} {x y : String × DataW Unit} {r : List (String × DataW Unit)} (h : laidMet Tryz.prog (x :: y :: ("internal/strconv.uint64pow10", Rows.laid_internal_strconv_uint64pow10) :: r) W) : Tb W := by
  have h3 := h.tail.tail
  rw [pow_data] at h3
  exact Lib.tabIs_of_head (show Tryz.prog.globalNamed "internal/strconv.uint64pow10" = some 3 by kernel_rfl) (by kernel_rfl) Tryz.underlying176 Tryz.underlying155 (by kernel_rfl) (by kernel_rfl) h3
end Go.Proofs.YtoinlkdmfclnbaaGreatDoor
namespace Go.Proofs.YtoinlkdmfclnbaaGreatDoor
open Go.ChangeShapes Go.WideShapes Go.ChangeAt Go.RowKit
set_option linter.unusedVariables false

theorem errStar : "*" ++ "errors.errorString" = "*errors.errorString" := by decide
theorem errRow (u : TypeId) (h : Tryz.prog.typeName? 3 u = some "*errors.errorString") : u = 181 :=
  typeName_ptr_named (nm := "errors.errorString") (by rw [errStar]; kernel_rfl) (by kernel_rfl) (by decide) u (by rw [errStar]; exact h)
theorem iface_of {W : World} {n : String} {text : List UInt8} {r : List (String × DataW Unit)} {g : Nat} (h : laidMet Tryz.prog ((n, .iface "*errors.errorString" (.ptr (.agg [.lit (.string text)]))) :: r) W)
    (hg : Tryz.prog.globalNamed n = some g) (ht : (Tryz.prog.globals[g]?).map (·.type) = some 106) : ∃ ev, W.cell? ⟨g, 0, none⟩ = some ev ∧ (ev = .nilIface ∨ ∃ te pe, ev = .iface te pe) := by
  obtain ⟨a0, s0, hv0, hc0, hs0, hz0⟩ := laid_sentinel h hg ht Tryz.underlying106 errRow Tryz.underlying181 Tryz.underlying183 rfl rfl Tryz.underlying9 (by kernel_rfl) (by kernel_rfl)
  exact ⟨_, by simpa using World.var?_cell hg hv0 0, .inr ⟨_, _, rfl⟩⟩
theorem glo_of {W : World} {x y : String × DataW Unit} (h : laidMet Tryz.prog [x, y, ("internal/strconv.uint64pow10", Rows.laid_internal_strconv_uint64pow10), ("strconv.ErrRange", Rows.laid_strconv_ErrRange), ("strconv.ErrSyntax", Rows.laid_strconv_ErrSyntax)] W) (hs : W.ShapedOpen Tryz.prog) : Glo W :=
  ⟨six_of hs, tb_of h,
    Go.Proofs.cell_of_shapedOpen_int (zero := #[.int .i64 0]) (t := 3) hs (of_decide_eq_true (by kernel_rfl)) (by kernel_rfl) rfl (by kernel_rfl) (by kernel_rfl) Tryz.underlying3,
    iface_of h.tail.tail.tail.tail (show Tryz.prog.globalNamed "strconv.ErrSyntax" = some 1 by kernel_rfl) (by kernel_rfl),
    iface_of h.tail.tail.tail (show Tryz.prog.globalNamed "strconv.ErrRange" = some 2 by kernel_rfl) (by kernel_rfl)⟩
end Go.Proofs.YtoinlkdmfclnbaaGreatDoor
namespace Go.Proofs.YtoinlkdmfclnbaaGreatDoor
open Go.ChangeShapes Go.WideShapes Go.ChangeAt Go.RowKit Go.Joins
set_option linter.unusedVariables false

theorem rd_of_cells {H : Type} {enc : TypeId × Value → H} {W : World} {c0 : Value} {y : DataW H × List MemPlace} {fuel : Nat} {held : Bool}
    (h : DataW.trod enc Tryz.prog W 0 (fun _ => true) held fuel 23 [c0] = some y) : ∃ A n c xs, c0 = .slice A n c ∧ Rd W W.heap.size A n c xs := by
  rcases open_ints Tryz.underlying23 Tryz.underlying3 (by kernel_rfl) h with ⟨hcs, _⟩ | ⟨x, l, c, zs, hcs, _⟩
  · obtain rfl : c0 = .slice none 0 0 := by simpa using hcs
    exact ⟨none, 0, 0, [], rfl, Rd.nil_ _ _⟩
  · obtain rfl : c0 = .slice (some x) l c := by simpa using hcs
    obtain ⟨xs, hx⟩ := rd_of_trod (held := held) (a := some x) (len := l) (cap := c) (d := y.1) (p := y.2) ⟨fuel, by simpa [Value.cells] using h⟩
    exact ⟨_, _, _, xs, rfl, hx⟩
theorem rdr_of_cells {H : Type} {enc : TypeId × Value → H} {W : World} {c0 : Value} {y : DataW H × List MemPlace} {fuel : Nat} {held : Bool}
    (h : DataW.trod enc Tryz.prog W 0 (fun _ => true) held fuel 24 [c0] = some y) : ∃ A n c xss, c0 = .slice A n c ∧ RdR W W.heap.size A n c xss := by
  rcases Go.Deep.open_int_rows Tryz.underlying24 Tryz.underlying23 Tryz.underlying3 (by kernel_rfl) (by kernel_rfl) h with ⟨hcs, _⟩ | ⟨x, l, c, A, L, C, Z, hcs, _, hl, hm, _, hr⟩
  · obtain rfl : c0 = .slice none 0 0 := by simpa using hcs
    exact ⟨none, 0, 0, [], rfl, RdR.nil_ _ _⟩
  · obtain rfl : c0 = .slice (some x) l c := by simpa using hcs
    refine ⟨_, _, _, (List.range l).map (fun r => (Z r).take (L r)), rfl, by simp, hl, hm, fun hn => ?_⟩
    obtain ⟨b, off, spot⟩ := x
    have hc := (hr 0 (by omega)).1
    have hspot : spot = none := by simpa [Addr.add] using World.cell?_spot hc
    subst hspot
    have hb : b < W.heap.size := by
      have := World.block_lt_of_cell? W _ hc
      simpa [Addr.add] using this
    refine ⟨b, off, rfl, hb, fun k hk => ?_⟩
    obtain ⟨h1, h2, h3, h4, _, h6, h7⟩ := hr k (by omega)
    rw [Addr.add_lit] at h1
    have hg : gR ((List.range l).map (fun r => (Z r).take (L r))) k = (Z k).take (L k) := by
      rw [gR_get (by simpa using hk)]; simp
    refine ⟨A k, L k, C k, h1, ?_⟩
    rw [hg]
    refine ⟨by rw [List.length_take]; omega, h2, h3, fun hp => ?_⟩
    rcases hA : A k with _ | ⟨b', off', spot'⟩
    · have := h6 hA; omega
    · have h8 := (h7 _ hA).2
      have hc' := h8 0 (by omega)
      have hspot' : spot' = none := by simpa [Addr.add] using World.cell?_spot hc'
      subst hspot'
      have hb' : b' < W.heap.size := by
        have := World.block_lt_of_cell? W _ hc'
        simpa [Addr.add] using this
      refine ⟨b', off', rfl, hb', fun j hj => ?_⟩
      have hck := h8 j (by omega)
      rw [Addr.add_lit] at hck
      rw [hck]
      simp [gI, List.getD, hj]
set_option maxRecDepth 100000 in
/-- A desk that came in. -/
theorem rdd_of_trod {H : Type} {enc : TypeId × Value → H} {W : World} {v : Value} {d : DataW H} {p : List MemPlace} {held : Bool} {base : Nat}
    (hval : Value.okWide Tryz.prog W .any base 39 v) (h : DataW.Trod enc Tryz.prog W 0 (fun _ => true) held 39 v d p) :
    ∃ A n c P m k xs yss, v = .agg #[.slice A n c, .slice P m k] ∧ RdD W W.heap.size A n c xs P m k yss := by
  obtain ⟨c0, c1, y0, y1, m, rfl, _, _, hy0, hy1⟩ := open_agg2 Tryz.underlying39 (by kernel_rfl) (by kernel_rfl) hval h
  obtain ⟨A, n, c, xs, rfl, h1⟩ := rd_of_cells hy0
  obtain ⟨P, m', k, yss, rfl, h2⟩ := rdr_of_cells hy1
  exact ⟨_, _, _, _, _, _, xs, yss, rfl, h1, h2⟩
end Go.Proofs.YtoinlkdmfclnbaaGreatDoor
namespace Go.Proofs.YtoinlkdmfclnbaaGreatDoor
open Go.ChangeShapes Go.WideShapes Go.ChangeAt Go.RowKit
set_option linter.unusedVariables false
set_option maxRecDepth 100000 in
theorem rds_of_trod {H : Type} {enc : TypeId × Value → H} {W : World} {a : Option Addr} {len cap : Nat} {d : DataW H} {p : List MemPlace} {held : Bool}
    (h : DataW.Trod enc Tryz.prog W 0 (fun _ => true) held 34 (.slice a len cap) d p) : ∃ ts, RdT W W.heap.size a len cap ts ∧ ∀ k, k < len → (gT ts k).size ≤ maxLen := by
  obtain ⟨fuel, hf⟩ := h
  rcases open_strings Tryz.underlying34 Tryz.underlying9 (by kernel_rfl) hf with ⟨hcs, _⟩ | ⟨x, l, c, ss, hcs, _, hl, hm, hz, _, hcell, hws⟩
  · simp [Value.cells] at hcs
    obtain ⟨rfl, rfl, rfl⟩ := hcs
    exact ⟨[], RdT.nil_ _ _, fun k hk => absurd hk (Nat.not_lt_zero _)⟩
  · simp [Value.cells] at hcs
    obtain ⟨rfl, rfl, rfl⟩ := hcs
    have hz' : ss.length = cap := by simpa using hz
    have hg : ∀ k, k < len → gT (ss.take len) k = gT ss k := fun k hk => by simp [gT, List.getD, hk]
    refine ⟨ss.take len, ⟨by rw [List.length_take]; omega, hl, hm, fun hn => ?_⟩, fun k hk => ?_⟩
    · obtain ⟨b, off, spot⟩ := x
      have hc := hcell 0 (by omega)
      have hspot : spot = none := by simpa [Addr.add] using World.cell?_spot hc
      subst hspot
      have hb : b < W.heap.size := by
        have := World.block_lt_of_cell? W _ hc
        simpa [Addr.add] using this
      refine ⟨b, off, rfl, hb, fun k hk => ?_⟩
      have hck := hcell k (by omega)
      rw [Addr.add_lit] at hck
      rw [hck, hg k hk]
      have e2 : k < ss.length := by omega
      rw [gT_get e2]
      simp [List.getD, List.getElem?_eq_getElem e2]
    · rw [hg k hk, gT_get (by omega)]
      exact hws _ (List.getElem_mem (by omega))
end Go.Proofs.YtoinlkdmfclnbaaGreatDoor
