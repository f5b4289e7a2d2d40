/- Words for a desk that a call returns and that is put into a block of its own, whenever the block is made. -/
import Derived.Test.YtnpjelekpkgbpaaW89
import Derived.Deep.DeepCutAuto
namespace Go.Proofs.Ytnpjelekpkgbpaa
set_option linter.unusedVariables false
open Go.RowKit
theorem tot_fit {yss : List (List Int)} (h : Fit yss) (h8 : yss.length ≤ 8) : tot yss ≤ 56 := by
  have : ∀ (l : List (List Int)), (∀ k, k < l.length → (gR l k).length ≤ 7) → tot l ≤ 7 * l.length := by
    intro l
    induction l with
    | nil => intro _; simp [tot]
    | cons x r ih =>
      intro hl
      have h0 : x.length ≤ 7 := hl 0 (by simp)
      have h1 := ih (fun k hk => hl (k + 1) (by simpa using hk))
      have e : tot (x :: r) = x.length + tot r := by simp [tot]
      rw [e, List.length_cons]; omega
  have := this yss (fun k hk => (h.2 k hk).2)
  omega
theorem below_of_alloc {w w' : World} {o : Obj} (h : Below (w.alloc o).heap.size (w.alloc o) w') : Below w.heap.size w w' :=
  ((Below.refl _ _).alloc (Nat.le_refl _) o).trans (h.mono (by simp))
theorem below_new (w : World) (o : Obj) : Below w.heap.size w (w.alloc o) := (Below.refl _ _).alloc (Nat.le_refl _) o
/-- A store into a cell that held no number leaves what reads as numbers. -/
theorem Rd.set_ {w : World} {B n c : Nat} {A : Option Addr} {xs : List Int} (h : Rd w B A n c xs) {p : Addr} {A' : Option Addr} {n' c' : Nat} (hp : w.cell? p = some (.slice A' n' c')) (v : Value) : Rd (w.setCell p v) B A n c xs :=
  ⟨h.1, h.2.1, h.2.2.1, fun hn => by
    obtain ⟨b, off, e, hb, hc⟩ := h.2.2.2 hn
    refine ⟨b, off, e, hb, fun k hk => ?_⟩
    rw [World.cell?_setCell_other _ _ _ _ (by intro e'; have := hc k hk; rw [← e', hp] at this; cases this)]
    exact hc k hk⟩
theorem RdR.set_ {w : World} {B n c : Nat} {A : Option Addr} {xss : List (List Int)} (h : RdR w B A n c xss) (hf : ∀ k, k < xss.length → 0 < (gR xss k).length) {p : Addr} (hp : w.cell? p = some (.slice none 0 0)) (v : Value) : RdR (w.setCell p v) B A n c xss :=
  ⟨h.1, h.2.1, h.2.2.1, fun hn => by
    obtain ⟨b, off, e, hb, hc⟩ := h.2.2.2 hn
    refine ⟨b, off, e, hb, fun k hk => ?_⟩
    obtain ⟨A', n', c', h1, h2⟩ := hc k hk
    refine ⟨A', n', c', ?_, h2.set_ hp v⟩
    rw [World.cell?_setCell_other _ _ _ _ (by intro e'; rw [← e', hp] at h1; cases h1; have := hf k (by rw [h.1]; exact hk); rw [h2.1] at this; omega)]
    exact h1⟩
/-- The outcome reads as a desk. -/
def CutS (wj wx : World) (s6 s7 : Value) (r1 : List Int) (r2 : List (List Int)) (r3 : Bool) : Prop :=
  ∃ g A n c P m d, s6 = .pointer (some ⟨g, 0, none⟩) ∧ s7 = .bool r3 ∧ Two wx g (.slice A n c) (.slice P m d) ∧ Below wj.heap.size wj wx ∧ RdD wx wx.heap.size A n c r1 P m d r2
/-- The outcome is a desk of the call's own. -/
def CutR (wj wx : World) (s6 s7 : Value) (r1 : List Int) (r2 : List (List Int)) (r3 : Bool) : Prop :=
  ∃ g A n c P m d lo hi, s6 = .pointer (some ⟨g, 0, none⟩) ∧ s7 = .bool r3 ∧ Two wx g (.slice A n c) (.slice P m d) ∧ Below wj.heap.size wj wx ∧ OwnD wx lo hi A n c r1 P m d r2 ∧ wj.heap.size ≤ lo ∧ hi ≤ wx.heap.size ∧ (g < lo ∨ hi ≤ g) ∧ wj.heap.size ≤ g
section
variable {wj wx : World} {A P : Option Addr} {n c m d g lo hi : Nat} {r1 : List Int} {r2 : List (List Int)} {r3 : Bool}
theorem cutS_last (hb : Below wj.heap.size wj wx) (h : RdD wx wx.heap.size A n c r1 P m d r2) : CutS wj (wx.alloc (.cells #[.slice A n c, .slice P m d] 30)) (.pointer (some ⟨wx.heap.size, 0, none⟩)) (.bool r3) r1 r2 r3 :=
  ⟨_, _, _, _, _, _, _, rfl, rfl, Two.made wx _ _ _, bt hb (below_new _ _), h.up (below_new _ _)⟩
theorem cutS_early (hb : Below wj.heap.size wj wx) (h : RdD wx wx.heap.size A n c r1 P m d r2) (hf : ∀ k, k < r2.length → 0 < (gR r2 k).length) (hg : Two wx g (.slice none 0 0) (.slice none 0 0)) (hgl : wj.heap.size ≤ g) :
    CutS wj ((wx.setCell ⟨g, 0, none⟩ (.slice A n c)).setCell ⟨g, 1, none⟩ (.slice P m d)) (.pointer (some ⟨g, 0, none⟩)) (.bool r3) r1 r2 r3 := by
  have hg1 := hg.set0 (.slice A n c)
  have hz : ((wx.setCell ⟨g, 0, none⟩ (.slice A n c)).setCell ⟨g, 1, none⟩ (.slice P m d)).heap.size = wx.heap.size := by simp
  refine ⟨g, A, n, c, P, m, d, rfl, rfl, hg1.set1 _, (hb.setCell hgl _).setCell hgl _, ?_⟩
  rw [hz]
  exact ⟨(h.1.set_ hg.2.1 _).set_ hg1.2.2.1 _, (h.2.set_ hf hg.2.1 _).set_ hf hg1.2.2.1 _⟩
theorem cutR_last (hb : Below wj.heap.size wj wx) (h : OwnD wx lo hi A n c r1 P m d r2) (h1 : wj.heap.size ≤ lo) (h2 : hi ≤ wx.heap.size) : CutR wj (wx.alloc (.cells #[.slice A n c, .slice P m d] 30)) (.pointer (some ⟨wx.heap.size, 0, none⟩)) (.bool r3) r1 r2 r3 :=
  ⟨_, _, _, _, _, _, _, lo, hi, rfl, rfl, Two.made wx _ _ _, bt hb (below_new _ _), h.up (below_new _ _), h1, Nat.le_trans h2 (below_new wx _).size, .inr h2, hb.size⟩
theorem cutR_early (hb : Below wj.heap.size wj wx) (h : OwnD wx lo hi A n c r1 P m d r2) (h1 : wj.heap.size ≤ lo) (h2 : hi ≤ wx.heap.size) (hg : Two wx g (.slice none 0 0) (.slice none 0 0)) (hgl : wj.heap.size ≤ g) (hd : g < lo) :
    CutR wj ((wx.setCell ⟨g, 0, none⟩ (.slice A n c)).setCell ⟨g, 1, none⟩ (.slice P m d)) (.pointer (some ⟨g, 0, none⟩)) (.bool r3) r1 r2 r3 := by
  have hg1 := hg.set0 (.slice A n c)
  have hz : ((wx.setCell ⟨g, 0, none⟩ (.slice A n c)).setCell ⟨g, 1, none⟩ (.slice P m d)).heap.size = wx.heap.size := by simp
  have hch : Chg g (g + 1) wx ((wx.setCell ⟨g, 0, none⟩ (.slice A n c)).setCell ⟨g, 1, none⟩ (.slice P m d)) :=
    ((Chg.refl _ _ wx).setCell (p := ⟨g, 0, none⟩) (Nat.le_refl g) (Nat.lt_succ_self g) _).setCell (p := ⟨g, 1, none⟩) (Nat.le_refl g) (Nat.lt_succ_self g) _
  exact ⟨g, A, n, c, P, m, d, lo, hi, rfl, rfl, hg1.set1 _, (hb.setCell hgl _).setCell hgl _, h.chg hch (.inr hd), h1, by rw [hz]; exact h2, .inl hd, hgl⟩
end
def DoR (w : World) (r1 : List Int) (r2 : List (List Int)) (r3 : Bool) (e : Ending) (w' : World) : Prop :=
  ∃ A n c P m d, e = .returned (.tuple #[.agg #[.slice A n c, .slice P m d], .bool r3]) ∧ RdD w' w'.heap.size A n c r1 P m d r2 ∧ Below w.heap.size w w'
def DoO (w : World) (r1 : List Int) (r2 : List (List Int)) (r3 : Bool) (e : Ending) (w' : World) : Prop :=
  ∃ A n c P m d, e = .returned (.tuple #[.agg #[.slice A n c, .slice P m d], .bool r3]) ∧ OwnD w' w.heap.size w'.heap.size A n c r1 P m d r2 ∧ Below w.heap.size w w'
def Rows0 (r2 : List (List Int)) : Prop := ∀ k, k < r2.length → 0 < (gR r2 k).length
theorem deskDo_any (xs : List Int) (yss : List (List Int)) (kd a b : Int) (s : ByteArray) (hs : s.size ≤ 1000000000000) :
    ∃ (r1 : List Int) (r2 : List (List Int)) (r3 : Bool), (r1.length ≤ 7 ∧ r2.length ≤ 8 ∧ tot r2 ≤ 56 ∧ Rows0 r2) ∧
      (∀ A n c P m d w, RdD w w.heap.size A n c xs P m d yss → Calls Try.prog 10 #[.agg #[.slice A n c, .slice P m d], .agg #[.int .i64 kd, .int .i64 a, .int .i64 b, .string s]] w (DoR w r1 r2 r3)) ∧
      (∀ A n c P m d w, RdD w w.heap.size A n c xs P m d yss → Calls Try.prog 13 #[.agg #[.slice A n c, .slice P m d], .agg #[.int .i64 kd, .int .i64 a, .int .i64 b, .string s]] w (DoO w r1 r2 r3)) := by
  refine ⟨(doX xs yss kd a b s).1, (doX xs yss kd a b s).2.1, (doX xs yss kd a b s).2.2, ?_, fun A n c P m d w h => (sDeskDo_c A P n c m d xs yss kd a b s w h hs).mono fun _ _ ⟨A, n, c, P, m, d, h1, h2, h3, _, _, _⟩ => ⟨A, n, c, P, m, d, h1, h2, h3⟩, fun A n c P m d w h => deskDo_c A P n c m d xs yss kd a b s w h hs⟩
  rcases hok : deskOkB xs yss with _ | _
  · rw [do_no hok]; exact ⟨by simp, by simp, by simp [tot], fun k hk => by simp at hk⟩
  · have h2 := doX_desk kd a b s hok
    have h3 := desk_fit h2
    have h4 := desk_parts h2
    exact ⟨h3.2.1, h4.2.1, tot_fit h3.2.2 h4.2.1, fun k hk => (h3.2.2.2 k hk).1⟩
end Go.Proofs.Ytnpjelekpkgbpaa
