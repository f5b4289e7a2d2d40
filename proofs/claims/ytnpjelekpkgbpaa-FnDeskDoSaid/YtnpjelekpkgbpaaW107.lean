/- Words for the law FnDeskRun: a row of deeds cut in two; a run in two parts. -/
import Derived.Test.YtnpjelekpkgbpaaW106
namespace Go.Proofs.Ytnpjelekpkgbpaa
set_option linter.unusedVariables false
open Go.RowKit

theorem dG_take {ds : List Dd} {h k : Nat} (hk : k < h) : dG (ds.take h) k = dG ds k := by
  simp [dG, List.getD, hk]
theorem dG_drop (ds : List Dd) (h k : Nat) : dG (ds.drop h) k = dG ds (h + k) := by
  simp [dG, List.getD, List.getElem?_drop]
theorem RdE.take_ {w : World} {B n c : Nat} {A : Option Addr} {ds : List Dd} (hR : RdE w B A n c ds) {h : Nat} (hh : h ≤ n) : RdE w B A h c (ds.take h) := by
  refine ⟨by rw [List.length_take, hR.1]; omega, by have := hR.cap; omega, hR.max, fun hp => ?_⟩
  obtain ⟨b, off, e, hb, hc⟩ := hR.2.2.2 (by omega)
  refine ⟨b, off, e, hb, fun k hk => ?_⟩
  unfold dK dA dB dS
  rw [dG_take hk]
  exact hc k (by omega)
theorem RdE.drop_ {w : World} {B n c b off : Nat} {ds : List Dd} (hR : RdE w B (some ⟨b, off, none⟩) n c ds) {h : Nat} (hh : h ≤ n) : RdE w B (some ⟨b, off + h * 4, none⟩) (n - h) (c - h) (ds.drop h) := by
  refine ⟨by rw [List.length_drop, hR.1], by have := hR.cap; omega, by have := hR.max; omega, fun hp => ?_⟩
  obtain ⟨b', off', e, hb, hc⟩ := hR.2.2.2 (by omega)
  cases e
  refine ⟨b, off + h * 4, rfl, hb, fun k hk => ?_⟩
  have := hc (h + k) (by omega)
  unfold dK dA dB dS at *
  rw [dG_drop, show off + h * 4 + k * 4 = off + (h + k) * 4 by omega]
  exact this
/-- the row from h on, in the walk's spelling -/
theorem RdE.drop_any {w : World} {B n c : Nat} {E : Option Addr} {ds : List Dd} (hR : RdE w B E n c ds) {h : Nat} (hh : h ≤ n) : RdE w B (if c = h then E else E.map (·.add (h * 4))) (n - h) (c - h) (ds.drop h) := by
  refine ⟨by rw [List.length_drop, hR.1], by have := hR.cap; omega, by have := hR.max; omega, fun hp => ?_⟩
  have hc := hR.cap
  obtain ⟨b, off, e, hb, hx⟩ := hR.2.2.2 (by omega)
  subst e
  rw [if_neg (by omega)]
  have h9 := (hR.drop_ hh).2.2.2 hp
  rw [Option.map_some]
  rw [show (⟨b, off, none⟩ : Addr).add (h * 4) = ⟨b, off + h * 4, none⟩ from by unfold Addr.add; split <;> simp_all] 
  exact h9
theorem stepX_add (t : Sk) (m : Nat) (d : Dd) : stepX (t.1, t.2.1, t.2.2 + m) d = ((stepX t d).1, (stepX t d).2.1, (stepX t d).2.2 + m) := by
  unfold stepX
  split
  · simp only [Prod.mk.injEq, true_and]; omega
  · rfl
theorem foldl_add : ∀ (ds : List Dd) (t : Sk) (m : Nat), ds.foldl stepX (t.1, t.2.1, t.2.2 + m) = ((ds.foldl stepX t).1, (ds.foldl stepX t).2.1, (ds.foldl stepX t).2.2 + m)
  | [], _, _ => rfl
  | d :: r, t, m => by
    rw [List.foldl_cons, List.foldl_cons, stepX_add]
    exact foldl_add r (stepX t d) m
theorem runL_two (xs : List Int) (yss : List (List Int)) (ds : List Dd) (h : Nat) :
    runL xs yss ds = ((runL (runL xs yss (ds.take h)).1 (runL xs yss (ds.take h)).2.1 (ds.drop h)).1, (runL (runL xs yss (ds.take h)).1 (runL xs yss (ds.take h)).2.1 (ds.drop h)).2.1,
      (runL (runL xs yss (ds.take h)).1 (runL xs yss (ds.take h)).2.1 (ds.drop h)).2.2 + (runL xs yss (ds.take h)).2.2) := by
  unfold runL
  have e := foldl_add (ds.drop h) (((ds.take h).foldl stepX (xs, yss, 0)).1, ((ds.take h).foldl stepX (xs, yss, 0)).2.1, 0) ((ds.take h).foldl stepX (xs, yss, 0)).2.2
  rw [← e]
  simp only [Nat.zero_add]
  rw [← List.foldl_append, List.take_append_drop]
/-- A run in two parts is the whole run. -/
theorem runX_two {xs : List Int} {yss : List (List Int)} {ds : List Dd} (h : Nat) (hok : deskOkB xs yss = true) (h40 : ds.length ≤ 40) :
    ∃ r1 r2 m1 s1 s2 m2, runX xs yss (ds.take h) = (r1, r2, m1) ∧ runX r1 r2 (ds.drop h) = (s1, s2, m2) ∧ runX xs yss ds = (s1, s2, m1 + m2) ∧ deskOkB s1 s2 = true := by
  have k1 : runB xs yss (ds.take h) = true := by unfold runB; rw [hok, Bool.true_and, decide_eq_true_eq, List.length_take]; omega
  have k3 : runB xs yss ds = true := by unfold runB; rw [hok, Bool.true_and, decide_eq_true_eq]; exact h40
  have o1 := runL_ok (ds.take h) hok
  have k2 : runB (runL xs yss (ds.take h)).1 (runL xs yss (ds.take h)).2.1 (ds.drop h) = true := by unfold runB; rw [o1, Bool.true_and, decide_eq_true_eq, List.length_drop]; omega
  refine ⟨(runL xs yss (ds.take h)).1, (runL xs yss (ds.take h)).2.1, (runL xs yss (ds.take h)).2.2, _, _, _, by unfold runX; rw [if_pos k1], by unfold runX; rw [if_pos k2], ?_, runL_ok _ o1⟩
  unfold runX
  rw [if_pos k3]
  conv => lhs; rw [runL_two xs yss ds h]
  rw [Nat.add_comm]
end Go.Proofs.Ytnpjelekpkgbpaa
