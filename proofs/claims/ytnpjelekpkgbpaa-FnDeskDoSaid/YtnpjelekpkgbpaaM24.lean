/- Plain law: what a deed makes of a desk, for FnDeskDo. -/
import Derived.Test.YtnpjelekpkgbpaaV10
import Derived.Test.YtnpjelekpkgbpaaM23
namespace Go.Proofs.Ytnpjelekpkgbpaa
set_option linter.unusedVariables false
variable {xs : List Int} {yss : List (List Int)} {kd a b : Int} {s : ByteArray}

theorem doX_false (h : (doX xs yss kd a b s).2.2 = false) : ((doX xs yss kd a b s).1 = xs ∧ (doX xs yss kd a b s).2.1 = yss) ∨ deskOkB xs yss = false := by
  rcases hok : deskOkB xs yss with _ | _
  · exact .inr rfl
  · refine .inl ?_
    rcases hb : backB yss kd a b s with _ | _
    · rcases hs : stayB xs kd a b s with _ | _
      · rw [do_go hok hb hs] at h; cases h
      · rw [do_stay hok hb hs]; exact ⟨rfl, rfl⟩
    · rw [do_back hok hb] at h; cases h
theorem doX_true (h : (doX xs yss kd a b s).2.2 = true) : deskOkB xs yss = true := by
  rcases hok : deskOkB xs yss with _ | _
  · rw [do_no hok] at h; cases h
  · rfl
theorem doX_made (h : (doX xs yss kd a b s).2.2 = true) (hk : kd ≠ 4) : (doX xs yss kd a b s).1 = madeI xs kd a b s ∧ (doX xs yss kd a b s).2.1 = pastX xs yss ∧ ¬ madeI xs kd a b s = [] := by
  have hok := doX_true h
  have hb : backB yss kd a b s = false := by
    rcases hb : backB yss kd a b s with _ | _
    · rfl
    · exact absurd (back_iff.1 hb).1 hk
  rcases hs : stayB xs kd a b s with _ | _
  · rw [do_go hok hb hs]
    refine ⟨rfl, rfl, fun e => ?_⟩
    rw [stay_nil e] at hs; cases hs
  · rw [do_stay hok hb hs] at h; cases h
theorem doX_backs (h : (doX xs yss kd a b s).2.2 = true) (hk : kd ≠ 4) (h8 : yss.length < 8) :
    doX (doX xs yss kd a b s).1 (doX xs yss kd a b s).2.1 4 0 0 ⟨#[]⟩ = (xs, yss, true) := by
  have hd := doX_desk kd a b s (doX_true h)
  obtain ⟨-, h2, -⟩ := doX_made h hk
  rw [h2] at hd ⊢
  have hp : pastX xs yss = yss ++ [xs] := by unfold pastX; rw [if_pos h8]
  rw [hp] at hd ⊢
  rw [do_back hd (back_iff.2 ⟨rfl, rfl, rfl, rfl, by simp⟩)]
  rw [List.length_append, List.length_singleton, Nat.add_sub_cancel, gR_app, if_neg (by omega), Nat.sub_self, List.take_left]
  rfl
theorem doX_named (h : (doX xs yss 3 a b s).2.2 = true) : ∃ f g : List Nat, MapN f ∧ MapN g ∧ xs = ints f ∧ (doX xs yss 3 a b s).1 = ints g ∧ shapeT g = shapeT f := by
  obtain ⟨h1, -, h3⟩ := doX_made h (by decide)
  have hm := (desk_parts (doX_true h)).1
  obtain ⟨f, rfl, hf⟩ := mapOk_ex hm
  have hb : bareB 3 a b s = true := by
    rcases hb : bareB 3 a b s with _ | _
    · exact absurd (made_not hb) h3
    · rfl
  have e : madeI (ints f) 3 a b s = namI (ints f) (rdI s) := by rw [made_bare hb, chg_3]
  rw [e] at h1 h3
  have hp : mapOk (rdI s) = true := by
    rcases hp : mapOk (rdI s) with _ | _
    · exact absurd (namI_no2 hp) h3
    · rfl
  obtain ⟨p, hpe, hpm⟩ := mapOk_ex hp
  rw [hpe] at h1 h3
  have hl : f.length = p.length := Classical.byContradiction fun hn => h3 (namI_no3 (by rw [ints_len, ints_len]; exact hn))
  have ht : turned p = true := by
    rcases ht : turned p with _ | _
    · exact absurd (namI_no4 (by rw [toN_ints]; exact ht)) h3
    · rfl
  rw [namI_ok hf hpm hl ht] at h1
  exact ⟨f, _, hf, (cj_of hf hpm hl ht).hg, rfl, h1, shape_named hf hpm hl ht⟩
end Go.Proofs.Ytnpjelekpkgbpaa
