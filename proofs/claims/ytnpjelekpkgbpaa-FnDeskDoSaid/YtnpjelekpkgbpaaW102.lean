/- Words for the desk that is being drawn. -/
import Derived.Test.YtnpjelekpkgbpaaV14
namespace Go.Proofs.Ytnpjelekpkgbpaa
set_option linter.unusedVariables false
open Go.RowKit

section
variable {w w' : World} {B lo a b n c m d : Nat} {A P : Option Addr} {xs : List Int} {yss : List (List Int)}
theorem Rd.chgF (h : Rd w w.heap.size A n c xs) (hA : ∀ q, (Value.slice A n c).ownBlock = some q → lo ≤ q) (hc : Chg a b w w') (hb : b ≤ lo) : Rd w' w'.heap.size A n c xs :=
  ⟨h.1, h.2.1, h.2.2.1, fun hn => by
    obtain ⟨k, off, e, hk, hcell⟩ := h.2.2.2 hn
    subst e
    have hl := hA k rfl
    exact ⟨k, off, rfl, Nat.lt_of_lt_of_le hk hc.size, fun j hj => (World.cell?_of_block (w := w) (a := ⟨k, off + j, none⟩) (hc.block k hk (.inr (by omega)))).trans (hcell j hj)⟩⟩
theorem RdD.chgF (h : RdD w w.heap.size A n c xs P m d yss) (hf : FreshD w lo A n c P m d) (hc : Chg a b w w') (hb : b ≤ lo) : RdD w' w'.heap.size A n c xs P m d yss :=
  ⟨h.1.chgF hf.1 hc hb, ⟨h.2.1, h.2.2.1, h.2.2.2.1, fun hn => by
    obtain ⟨k, off, e, hk, hcell⟩ := h.2.2.2.2 hn
    subst e
    have hl := hf.2.1 k rfl
    refine ⟨k, off, rfl, Nat.lt_of_lt_of_le hk hc.size, fun j hj => ?_⟩
    obtain ⟨A', n', c', h1, h2⟩ := hcell j hj
    exact ⟨A', n', c', (World.cell?_of_block (w := w) (a := ⟨k, off + j, none⟩) (hc.block k hk (.inr (by omega)))).trans h1, h2.chgF (hf.2.2 j k off A' n' c' hj rfl h1) hc hb⟩⟩⟩
theorem FreshD.chgF (hf : FreshD w lo A n c P m d) (h : RdD w w.heap.size A n c xs P m d yss) (hc : Chg a b w w') (hb : b ≤ lo) : FreshD w' lo A n c P m d :=
  ⟨hf.1, hf.2.1, fun k g off A' n' c' hk hP hcl q hq => by
    obtain ⟨k', off', e, hk', hcell⟩ := h.2.2.2.2 (by omega)
    rw [hP] at e
    cases e
    have hl := hf.2.1 g (by rw [hP]; rfl)
    have e2 := World.cell?_of_block (w := w) (a := ⟨g, off + k, none⟩) (hc.block g hk' (.inr (by omega)))
    exact hf.2.2 k g off A' n' c' hk hP (e2.symm.trans hcl) q hq⟩
theorem FreshD.upF (hf : FreshD w lo A n c P m d) (h : RdD w w.heap.size A n c xs P m d yss) (hb : Below w.heap.size w w') : FreshD w' lo A n c P m d :=
  ⟨hf.1, hf.2.1, fun k g off A' n' c' hk hP hcl q hq => by
    obtain ⟨k', off', e, hk', hcell⟩ := h.2.2.2.2 (by omega)
    rw [hP] at e
    cases e
    exact hf.2.2 k g off A' n' c' hk hP ((hb.cell (p := ⟨g, off + k, none⟩) hk').symm.trans hcl) q hq⟩
end
theorem Ty.set_ {w : World} {G j : Nat} (h : Ty w G) (v : Value) : Ty (w.setCell ⟨G, j, none⟩ v) G := by
  obtain ⟨cur, fr, h⟩ := h
  have := h
  unfold Ty World.setCell
  simp only [Array.getElem?_modify, if_pos, h]
  exact ⟨_, _, rfl⟩
theorem RdR.setP {w : World} {B n c : Nat} {A : Option Addr} {xss : List (List Int)} (h : RdR w B A n c xss) {p : Addr} {A' : Option Addr} {n' c' : Nat} (hp : w.cell? p = some (.slice A' n' c')) (hb : ∀ q, (Value.slice A n c).ownBlock = some q → q ≠ p.block) (v : Value) : RdR (w.setCell p v) B A n c xss := h.setB hp hb v
theorem FreshD.setP {w : World} {lo n c m d : Nat} {A P : Option Addr} (h : FreshD w lo A n c P m d) {p : Addr} (hb : ∀ q, (Value.slice P m d).ownBlock = some q → q ≠ p.block) (v : Value) : FreshD (w.setCell p v) lo A n c P m d :=
  ⟨h.1, h.2.1, fun k b off A' n' c' hk hP hcl q hq => by
    subst hP
    rw [World.cell?_setCell_other _ _ _ _ (by intro e'; exact hb b rfl (by rw [e']))] at hcl
    exact h.2.2 k b off A' n' c' hk rfl hcl q hq⟩
/-- The desk that is being drawn, in block G; the result's block is the first one of the call's own. -/
structure KSt (w wr : World) (lo g q G : Nat) (A : Option Addr) (n c : Nat) (xs : List Int) (P : Option Addr) (m d : Nat) (yss : List (List Int)) : Prop where
  two : Two wr G (.slice A n c) (.slice P m d)
  rd : RdD wr wr.heap.size A n c xs P m d yss
  fresh : FreshD wr (w.heap.size + 1) A n c P m d
  ne : ∀ k, (Value.slice P m d).ownBlock = some k → k ≠ G
  own : OwnRR wr (w.heap.size + 1) (.slice P m d) yss
  rdr : Rdr wr lo g q
  chg : Chg g (g + 1) w wr
  res : Two wr w.heap.size (.slice none 0 0) (.slice none 0 0)
  ty : Ty wr G
  now : OwnIn wr (w.heap.size + 1) wr.heap.size A n c xs
  hG : w.heap.size < G
  hg : g < w.heap.size
section
variable {w wr w' : World} {lo g q q' G n c m d : Nat} {A P : Option Addr} {xs : List Int} {yss : List (List Int)}
theorem KSt.pick (h : KSt w wr lo g q G A n c xs P m d yss) (hr : Rdr w' lo g q') (hc : Chg g (g + 1) wr w') : KSt w w' lo g q' G A n c xs P m d yss := by
  have h1 := h.hG
  have h2 := h.hg
  exact ⟨h.two.chg hc (.inr (by omega)), h.rd.chgF h.fresh hc (by omega), h.fresh.chgF h.rd hc (by omega), h.ne, h.own.chg hc (by omega), hr, h.chg.chg_ hc (.inr ⟨Nat.le_refl _, Nat.le_refl _⟩), h.res.chg hc (.inr (by omega)), h.ty.of (hc.block G h.two.1 (.inr (by omega))), (h.now.chg hc (.inr (by omega))).wide (Nat.le_refl _) hc.size, h1, h2⟩
theorem KSt.up (h : KSt w wr lo g q G A n c xs P m d yss) (hb : Below wr.heap.size wr w') : KSt w w' lo g q G A n c xs P m d yss :=
  ⟨h.two.up hb, ⟨h.rd.1.up hb, h.rd.2.up hb⟩, h.fresh.upF h.rd hb, h.ne, h.own.up hb, h.rdr.up hb, h.chg.up_ hb, h.res.up hb, h.ty.up hb, (h.now.up hb).wide (Nat.le_refl _) hb.size, h.hG, h.hg⟩
theorem KSt.dr (h : KSt w wr lo g q G A n c xs P m d yss) : KSt w wr.drew lo g q G A n c xs P m d yss :=
  ⟨h.two.dn 1, ⟨h.rd.1.dn 1, h.rd.2.dn 1⟩, h.fresh, h.ne, h.own.dn 1, h.rdr.dn 1, h.chg.drewN 1, h.res.dn 1, h.ty, h.now.dn 1, h.hG, h.hg⟩
end
/-- What drawing a desk comes to. -/
def DeskDrawn (w : World) (lo g p : Nat) (e : Ending) (w' : World) : Prop :=
  ∃ A n c xs P m d yss, e = .returned (.agg #[.slice A n c, .slice P m d]) ∧ RdD w' w'.heap.size A n c xs P m d yss ∧ FreshD w' (w.heap.size + 1) A n c P m d ∧ n ≤ 7 ∧ Rdr w' lo g (p + 1000) ∧ Chg g (g + 1) w w'
/-- Another desk than the one in block G lies in block g8; whether it is taken. -/
def CutK (wr wx : World) (Q1 : Nat) (lo g q : Nat) (s8 s9 : Value) : Prop :=
  ∃ g8 A n c xs P m d yss r3, s8 = .pointer (some ⟨g8, 0, none⟩) ∧ s9 = .bool r3 ∧ Two wx g8 (.slice A n c) (.slice P m d) ∧ RdD wx wx.heap.size A n c xs P m d yss ∧ FreshD wx wr.heap.size A n c P m d ∧
    OwnRR wx wr.heap.size (.slice P m d) yss ∧ OwnIn wx wr.heap.size wx.heap.size A n c xs ∧ xs.length ≤ 7 ∧ yss.length ≤ Q1 ∧ Rdr wx lo g q ∧ Chg g (g + 1) wr wx
end Go.Proofs.Ytnpjelekpkgbpaa
