/- Walk: l20Deeds (spec): a row of deeds of the call's own. -/
import Derived.Test.YtnpjelekpkgbpaaW104
import Derived.Test.YtnpjelekpkgbpaaV14
namespace Go.Proofs.Ytnpjelekpkgbpaa
set_option linter.unusedVariables false
open Go.RowKit

/-- The value v is a slice of deeds of the call's own, from block B on. -/
def OwnW (w : World) (B : Nat) (v : Value) (ds : List Dd) : Prop := w.ownsRow B 34 4 v ds.length (flatD ds)
theorem OwnW.made (w : World) (B : Nat) (hB : B ≤ w.heap.size) : OwnW (w.alloc (.cells #[] 34)) B (.slice (some ⟨w.heap.size, 0, none⟩) 0 0) [] :=
  World.ownsRow_made w #[] 0 hB (Nat.zero_le _) (by simp)
theorem OwnW.chg {w w' : World} {B lo hi : Nat} {v : Value} {ds : List Dd} (h : OwnW w B v ds) (hc : Chg lo hi w w') (hd : hi ≤ B) : OwnW w' B v ds := by
  refine ⟨h.1, ?_⟩
  rcases h.2 with h0 | ⟨g, cap, cur, e, hg, hh, r⟩
  · exact .inl h0
  · exact .inr ⟨g, cap, cur, e, hg, by rw [hc.block g (Array.getElem?_eq_some_iff.1 hh).1 (.inr (by omega))]; exact hh, r⟩
theorem OwnW.slice_ {w : World} {B : Nat} {v : Value} {ds : List Dd} (h : OwnW w B v ds) : ∃ A c, v = .slice A ds.length c ∧ OwnE w B w.heap.size A ds.length c ds := by
  rcases h.2 with ⟨rfl, h0⟩ | ⟨g, cap, cur, rfl, r⟩
  · exact ⟨none, 0, by rw [h0], rfl, ⟨h.1, .inl ⟨by rw [h0], h0⟩⟩, fun k hk => by cases hk⟩
  · refine ⟨_, _, rfl, rfl, ⟨h.1, .inr ⟨g, cap, cur, rfl, r⟩⟩, fun k hk => ?_⟩
    cases hk
    exact (Array.getElem?_eq_some_iff.1 r.2.1).1
theorem app_deed {ops : Array Oper} {rest : List Oper} {o : Oper} {a : Act} {Q : Exit → Act → World → Prop} (w : World) (d : Dd) (hgd : o.guard = none) (s x : Operand)
    (ho : o.op = .call { callee := .builtin .append, args := #[s, x], argTypes := #[40, 40] })
    (B : Nat) (v : Value) (ds : List Dd) (hs : a.eval s = v) (hown : OwnW w B v ds) (hx : a.eval x = .slice (some ⟨w.heap.size, 0, none⟩) 1 1)
    (hlen : ds.length ≤ 1000000000000) (hB : B ≤ w.heap.size)
    (h : ∀ v' w', OwnW w' B v' (ds ++ [d]) → Below B w w' → wpList Try.prog ops Q rest (a.put o.dst v') w') :
    wpList Try.prog ops Q (o :: rest) a (w.alloc (.cells #[.int .i64 d.1, .int .i64 d.2.1, .int .i64 d.2.2.1, .string d.2.2.2] 34)) := by
  obtain ⟨i0, hi, hz0, hz1, hz2⟩ := info_parts deed_info
  refine wpList_append_own _ hgd s x 40 ho B 34 i0 _ 4 40 Try.underlying40 hi hz0 hz1 hz2 rfl (by decide) v ds.length (flatD ds) hs (hown.alloc _) ⟨w.heap.size, 0, none⟩ 1 1 (flatD [d]) hx rfl (fun j u hj => ?_) (by simp [flatD, Value.oneCell']) (by unfold maxLen; omega) (by omega) (by simp; omega) ?_
  · have hj' : j < 4 := by
      have := (List.getElem?_eq_some_iff.1 hj).1
      rw [flatD_len] at this
      simpa using this
    match j, hj' with
    | 0, _ => cases hj; simp [Addr.add]
    | 1, _ => cases hj; simp [Addr.add]
    | 2, _ => cases hj; simp [Addr.add]
    | 3, _ => cases hj; simp [Addr.add]
  intro v' w' hown' hg _
  refine h v' w' ?_ ?_
  · unfold OwnW
    rw [List.length_append, flatD_app]
    exact hown'
  · refine ((Below.refl B w).alloc hB _).grown hg (by simp; omega) (fun k hk => (hown.lt k hk).1)
theorem shrt_nil : Shrt [] := fun k hk => by simp at hk
theorem shrt_app {ds : List Dd} {d : Dd} (h : Shrt ds) (hd : d.2.2.2.size ≤ 7) : Shrt (ds ++ [d]) := by
  intro k hk
  rw [List.length_append] at hk
  simp only [List.length_cons, List.length_nil] at hk
  rcases Nat.lt_or_ge k ds.length with h1 | h1
  · have := h k h1
    unfold dS dG at *
    simp only [List.getD, List.getElem?_append_left h1] at *; exact this
  · obtain rfl : k = ds.length := by omega
    unfold dS dG
    simp only [List.getD, List.getElem?_append_right (Nat.le_refl _), Nat.sub_self]
    show d.2.2.2.size ≤ _
    omega
/-- A drawing function of deeds. -/
def DeedsDrawn (w : World) (lo g p : Nat) (e : Ending) (w' : World) : Prop :=
  ∃ A n c ds, e = .returned (.slice A n c) ∧ OwnE w' w.heap.size w'.heap.size A n c ds ∧ Shrt ds ∧ n ≤ 5 ∧ Rdr w' lo g p ∧ Chg g (g + 1) w w'
set_option maxRecDepth 100000 in
set_option maxHeartbeats 3200000 in
theorem deeds_c (g lo p n c : Nat) (A : Option Addr) (xs : List Int) (w : World) (h : Rdr w lo g p) (hF : Rd w w.heap.size A n c xs) (hg0 : ∀ q, (Value.slice A n c).ownBlock = some q → g + 1 ≤ q) (hp : p ≤ 10000) (hn : n ≤ 7) :
    Calls Try.prog 55 #[.pointer (some ⟨g, 0, none⟩), .slice A n c] w (DeedsDrawn w lo g (p + 1000)) := by
  have hgl := h.lt
  have hlog := h.lo
  have hO0 := OwnW.made w w.heap.size (Nat.le_refl _)
  have hb0 := below_new w (Obj.cells #[] 34)
  have hc0 := (Chg.refl g (g + 1) w).allocNew (Obj.cells #[] 34)
  have hr0 := h.up hb0
  go_enter Try.func55, Try.ntmps55
  go_wp2_with fail
  generalize w.alloc (Obj.cells #[] 34) = w0 at hO0 hc0 hr0 ⊢
  refine (pickP_c g lo p 6 _ hr0 (by omega) (by omega) (by omega)).mono ?_
  rintro e w1 ⟨x, rfl, hx, hr1, hc1⟩
  have hO1 := hO0.chg hc1 (by omega)
  have hC1 := hc0.chg_ hc1 (.inr ⟨Nat.le_refl _, Nat.le_refl _⟩)
  clear hO0 hc0 hr0 hc1 hb0
  go_wp2_with fail
  go_loopw [5, 6] (fun o i wr => ∃ (k : Nat) (ds : List Dd), k ≤ 5 ∧ ds.length + k ≤ 5 ∧ i = .int .i64 k ∧ OwnW wr w.heap.size o ds ∧ Shrt ds ∧ Rdr wr lo g (p + 1 + 100 * ds.length) ∧ Chg g (g + 1) w wr) (fun _ i _ => (intOf i).toNat)
  case atStart => exact ⟨x, [], by omega, by simp; omega, rfl, hO1, shrt_nil, hr1, hC1⟩
  case round =>
    obtain ⟨k, ds, hk, hl, rfl, hO, hS, hr, hc⟩ := hrel
    clear hO1 hC1 hr1
    have hR := hF.chgF hg0 hc (Nat.le_refl _)
    rcases k with _ | k
    · have HS := Lib.hid hS
      obtain ⟨A2, c2, rfl, hE⟩ := hO.slice_
      clear hS
      go_wp2_with fail
      go_ret
      exact ⟨A2, _, c2, ds, rfl, hE, HS.out, by omega, hr.more (by omega), hc⟩
    · have HO := Lib.hid hO
      have HC := Lib.hid hc
      have HS := Lib.hid hS
      have hpos : (0 : Int) < ((k + 1 : Nat) : Int) := by omega
      clear hO hc hS
      go_wp2_with fail
      refine (deed_c g lo (p + 1 + 100 * ds.length) n c A xs _ hr hR (by omega) hn).mono ?_
      rintro e w3 ⟨kd, a, b, s, rfl, hs7, hr3, hc3⟩
      have hO3 := HO.out.chg hc3 (by omega)
      have hC3 := HC.out.chg_ hc3 (.inr ⟨Nat.le_refl _, Nat.le_refl _⟩)
      have hs3 := hC3.size
      have HR3 := Lib.hid hr3
      have HC3 := Lib.hid hC3
      have hlen : ds.length ≤ 1000000000000 := by omega
      clear hr3 hc3 hr hC3 hR
      go_wp2_with (at_builtin; refine app_deed w3 (kd, a, b, s) rfl _ _ rfl w.heap.size _ ds rfl hO3 rfl hlen hs3 ?_; intro v' w' hown' hb')
      go_roundw
      case rel => exact ⟨k, ds ++ [(kd, a, b, s)], by omega, by simp; omega, by go_num, hown', shrt_app HS.out hs7, (HR3.out.below hb' hgl).more (by simp; omega), HC3.out.then_ hb'⟩
      case measure => simp [intOf]
end Go.Proofs.Ytnpjelekpkgbpaa
