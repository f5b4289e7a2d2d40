/- Walks: toDeed, szDeed; words for facts below a fixed block. -/
import Derived.Test.YtnpjelekpkgbpaaW88
namespace Go.Proofs.Ytnpjelekpkgbpaa
set_option linter.unusedVariables false
open Go.RowKit

section
variable {w w' : World} {B lo hi n c m d : Nat} {A P : Option Addr} {xs : List Int} {yss : List (List Int)}
theorem RdD.upB (h : RdD w B A n c xs P m d yss) (hb : Below w.heap.size w w') (hB : B ≤ w.heap.size) : RdD w' B A n c xs P m d yss := ⟨h.1.below (hb.mono hB), h.2.below (hb.mono hB)⟩
theorem RdD.chgB (h : RdD w B A n c xs P m d yss) (hc : Chg lo hi w w') (h1 : B ≤ lo) (h2 : B ≤ w.heap.size) : RdD w' B A n c xs P m d yss :=
  have hb := hc.belowLo (B := B) h1 h2
  ⟨h.1.below hb, h.2.below hb⟩
theorem RdD.dnB (h : RdD w B A n c xs P m d yss) (k : Nat) : RdD (w.drewN k) B A n c xs P m d yss := ⟨h.1.keep fun _ _ => rfl, h.2.keep fun _ _ => rfl⟩
theorem RdD.moreB (h : RdD w B A n c xs P m d yss) (hB : B ≤ w.heap.size) : RdD w w.heap.size A n c xs P m d yss := ⟨h.1.more hB, h.2.more hB⟩
end
theorem load_four {P : Program} {ty : TypeId} {w : World} {g : Nat} {x y z u : Value} {d : TypeDesc} (h : w.cell? ⟨g, 0, none⟩ = some x ∧ w.cell? ⟨g, 1, none⟩ = some y ∧ w.cell? ⟨g, 2, none⟩ = some z ∧ w.cell? ⟨g, 3, none⟩ = some u) (hu : P.underlying ty = some d) (hd : isS d = true) (hi : (P.info? ty).map (·.size) = some 4) :
    (loadVar ty ⟨g, 0, none⟩).run P w = .ok (.agg #[x, y, z, u]) w := by
  have hl : (loadCells ⟨g, 0, none⟩ [x, y, z, u].length).run P w = .ok [x, y, z, u].toArray w :=
    run_loadCells_list (P := P) w ⟨g, 0, none⟩ [x, y, z, u] (fun j v hv => by
      have hadd : (⟨g, 0, none⟩ : Addr).add j = ⟨g, j, none⟩ := by unfold Addr.add; split <;> simp_all
      rw [hadd]
      match j, hv with
      | 0, hv => simp at hv; subst hv; exact h.1
      | 1, hv => simp at hv; subst hv; exact h.2.1
      | 2, hv => simp at hv; subst hv; exact h.2.2.1
      | 3, hv => simp at hv; subst hv; exact h.2.2.2
      | j + 4, hv => simp at hv)
  cases hq : P.info? ty with
  | none => simp [hq] at hi
  | some i =>
    have hs : i.size = 4 := by simpa [hq] using hi
    have hagg : (isAgg ty).run P w = .ok true w := by
      unfold isAgg
      rw [Sem.run_bind, run_underlying hu w]
      cases d <;> simp_all [isS]
    simp only [List.length_cons, List.length_nil] at hl
    simp [loadVar, Sem.run_bind, hagg, sizeOf, typeInfo, hq, hs, hl]
theorem deed_size : (Try.prog.info? 34).map (·.size) = some 4 := by kernel_rfl
/-- A result that lies in a block of four cells. -/
theorem results_four {fn : Func} {p : Tmp} {ty : TypeId} {P : Program} (h : fn.results = #[.cell p ty]) (tmps : Array Value) (w : World) (g : Nat) (x y z u : Value) (d : TypeDesc)
    (hp : tmps.getD p undef = .pointer (some ⟨g, 0, none⟩)) (hg : w.cell? ⟨g, 0, none⟩ = some x ∧ w.cell? ⟨g, 1, none⟩ = some y ∧ w.cell? ⟨g, 2, none⟩ = some z ∧ w.cell? ⟨g, 3, none⟩ = some u) (hu : P.underlying ty = some d) (hd : isS d = true) (hi : (P.info? ty).map (·.size) = some 4) :
    (results fn tmps).run P w = .ok (.agg #[x, y, z, u]) w := by
  have hp' : tmps[p]?.getD undef = .pointer (some ⟨g, 0, none⟩) := by simpa using hp
  simp [results, h, hp', asAddr, load_four hg hu hd hi]
theorem results_four_tmp {fn : Func} {p r : Tmp} {ty : TypeId} {P : Program} (h : fn.results = #[.cell p ty, .tmp r]) (tmps : Array Value) (w : World) (g : Nat) (x y z u : Value) (d : TypeDesc)
    (hp : tmps.getD p undef = .pointer (some ⟨g, 0, none⟩)) (hg : w.cell? ⟨g, 0, none⟩ = some x ∧ w.cell? ⟨g, 1, none⟩ = some y ∧ w.cell? ⟨g, 2, none⟩ = some z ∧ w.cell? ⟨g, 3, none⟩ = some u) (hu : P.underlying ty = some d) (hd : isS d = true) (hi : (P.info? ty).map (·.size) = some 4) :
    (results fn tmps).run P w = .ok (.tuple #[.agg #[x, y, z, u], tmps.getD r undef]) w := by
  have hp' : tmps[p]?.getD undef = .pointer (some ⟨g, 0, none⟩) := by simpa using hp
  rw [results_cell_tmp h]
  simp [hp', asAddr, load_four hg hu hd hi, Result.andThen]
set_option maxRecDepth 100000 in
set_option maxHeartbeats 800000 in
theorem toDeed_c (kd a b : Int) (s : ByteArray) (w : World) :
    Calls Try.prog 12 #[.agg #[.int .i64 kd, .int .i64 a, .int .i64 b, .string s]] w fun e w' => e = .returned (.agg #[.int .i64 kd, .int .i64 a, .int .i64 b, .string s]) ∧ Below w.heap.size w w' := by
  go_enter Try.func12, Try.ntmps12
  go_wp2_with fail
  exact bodyPost_ret (v := .agg #[.int .i64 kd, .int .i64 a, .int .i64 b, .string s]) (by simp [results, Try.results12, go_sem]) rfl ⟨rfl, (((Below.refl _ _).alloc (Nat.le_refl _) _).alloc (by simp) _).alloc (by simp; omega) _⟩
set_option maxHeartbeats 400000 in
theorem szDeed_c (kd a b : Int) (s : ByteArray) (left : Int) (w : World) (hs : s.size ≤ maxLen) (h0 : 0 ≤ left) (h1 : left ≤ 1048576) :
    Calls Try.prog 9 #[.agg #[.int .i64 kd, .int .i64 a, .int .i64 b, .string s], .int .i64 left] w fun e w' => ∃ r : Int, e = .returned (.int .i64 r) ∧ Below w.heap.size w w' ∧ -1 ≤ r ∧ r ≤ left ∧ (0 ≤ r → r + s.size ≤ left) := by
  have hb1 : Below w.heap.size w (w.alloc (.cells #[.int .i64 kd, .int .i64 a, .int .i64 b, .string s] 27)) := (Below.refl _ _).alloc (Nat.le_refl _) _
  unfold maxLen at hs
  by_cases hn : (s.size : Int) ≤ left
  · go_enter Try.func9, Try.ntmps9
    go_wp2_with fail
    go_ret
    exact ⟨_, rfl, hb1, by omega, by omega, fun _ => by omega⟩
  · go_enter Try.func9, Try.ntmps9
    go_wp2_with fail
    go_ret
    exact ⟨_, rfl, hb1, by omega, by omega, fun h => by omega⟩
end Go.Proofs.Ytnpjelekpkgbpaa
