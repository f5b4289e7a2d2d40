/- Words for the reader of a code (the drawing functions of the reference), and bytes that came in. -/
import Derived.Test.YtlbiioncpeondaaApp
import Derived.Test.YtlbiioncpeondaaM2
namespace Go.Proofs.Ytlbiioncpeondaa
set_option linter.unusedVariables false
open Go.RowKit

/-- The slice value '.slice A n c' reads as the bytes bs, below block B. -/
def RdB (w : World) (B : Nat) (A : Option Addr) (n c : Nat) (bs : List Nat) : Prop :=
  bs.length = n ∧ n ≤ c ∧ c ≤ maxLen ∧ (∀ b ∈ bs, b < 256) ∧ (0 < n → ∃ b off, A = some ⟨b, off, none⟩ ∧ b < B ∧ ∀ k, k < n → w.cell? ⟨b, off + k, none⟩ = some (.int .u8 (nx bs k : Int)))
section
variable {w w' : World} {B B' n c : Nat} {A : Option Addr} {bs : List Nat}
theorem RdB.len (h : RdB w B A n c bs) : bs.length = n := h.1
theorem RdB.cap (h : RdB w B A n c bs) : n ≤ c := h.2.1
theorem RdB.max (h : RdB w B A n c bs) : c ≤ maxLen := h.2.2.1
theorem RdB.at_ (h : RdB w B A n c bs) {k : Nat} (hk : k < n) : ∃ b off, A = some ⟨b, off, none⟩ ∧ b < B ∧ w.cell? ⟨b, off + k, none⟩ = some (.int .u8 (nx bs k : Int)) := by
  obtain ⟨b, off, e, hb, hc⟩ := h.2.2.2.2 (by omega)
  exact ⟨b, off, e, hb, hc k hk⟩
theorem RdB.byte (h : RdB w B A n c bs) (k : Nat) : nx bs k < 256 := by
  rcases Nat.lt_or_ge k bs.length with hk | hk
  · rw [nx_get hk]; exact h.2.2.2.1 _ (List.getElem_mem hk)
  · simp [nx, List.getD, List.getElem?_eq_none hk]
theorem RdB.keep (h : RdB w B A n c bs) (hk : ∀ p : Addr, p.block < B → w'.cell? p = w.cell? p) : RdB w' B A n c bs :=
  ⟨h.1, h.2.1, h.2.2.1, h.2.2.2.1, fun hn => by
    obtain ⟨b, off, e, hb, hc⟩ := h.2.2.2.2 hn
    exact ⟨b, off, e, hb, fun k hk' => (hk _ hb).trans (hc k hk')⟩⟩
theorem RdB.more (h : RdB w B A n c bs) (hB : B ≤ B') : RdB w B' A n c bs :=
  ⟨h.1, h.2.1, h.2.2.1, h.2.2.2.1, fun hn => by
    obtain ⟨b, off, e, hb, hc⟩ := h.2.2.2.2 hn
    exact ⟨b, off, e, by omega, hc⟩⟩
theorem RdB.below (h : RdB w B A n c bs) (hb : Below B w w') : RdB w' B A n c bs := h.keep fun _ hp => hb.cell hp
theorem RdB.cut (h : RdB w B A n c bs) {m : Nat} (hm : m ≤ n) : RdB w B A m c (bs.take m) := by
  refine ⟨by rw [List.length_take, h.1]; omega, by have := h.cap; omega, h.max, fun b hb => h.2.2.2.1 b (List.mem_of_mem_take hb), fun hp => ?_⟩
  obtain ⟨b, off, e, hb, hc⟩ := h.2.2.2.2 (by omega)
  refine ⟨b, off, e, hb, fun k hk => ?_⟩
  rw [hc k (by omega)]
  unfold nx; simp [List.getD, hk]
end

/-- The reader: block g, of the call's own (from lo on), holds the bytes (below lo) and a place of at most p. -/
def Rdr (w : World) (lo g p : Nat) : Prop :=
  ∃ (A : Option Addr) (n c : Nat) (bs : List Nat) (q : Nat), q ≤ p ∧ lo ≤ g ∧ w.heap[g]? = some (.cells #[.slice A n c, .int .i64 (q : Int)] 60 (0, 0)) ∧ RdB w lo A n c bs ∧ n ≤ 2000
theorem Rdr.lt {w : World} {lo g p : Nat} (h : Rdr w lo g p) : g < w.heap.size := by
  obtain ⟨A, n, c, bs, q, _, _, hg, _⟩ := h
  exact (Array.getElem?_eq_some_iff.1 hg).1
theorem Rdr.lo {w : World} {lo g p : Nat} (h : Rdr w lo g p) : lo ≤ g := by
  obtain ⟨A, n, c, bs, q, _, h1, _⟩ := h
  exact h1
theorem Rdr.more {w : World} {lo g p p' : Nat} (h : Rdr w lo g p) (hp : p ≤ p') : Rdr w lo g p' := by
  obtain ⟨A, n, c, bs, q, h1, r⟩ := h
  exact ⟨A, n, c, bs, q, by omega, r⟩
theorem Rdr.up {w w' : World} {lo g p : Nat} (h : Rdr w lo g p) (hb : Below w.heap.size w w') : Rdr w' lo g p := by
  have hlt := h.lt
  obtain ⟨A, n, c, bs, q, h1, h2, hg, hr, hn⟩ := h
  exact ⟨A, n, c, bs, q, h1, h2, by rw [hb.block g hlt]; exact hg, hr.below (hb.mono (by omega)), hn⟩
theorem Rdr.below {w w' : World} {lo g p B : Nat} (h : Rdr w lo g p) (hb : Below B w w') (hB : g < B) : Rdr w' lo g p := by
  obtain ⟨A, n, c, bs, q, h1, h2, hg, hr, hn⟩ := h
  exact ⟨A, n, c, bs, q, h1, h2, by rw [hb.block g hB]; exact hg, hr.below (hb.mono (by omega)), hn⟩
theorem Rdr.dn {w : World} {lo g p : Nat} (h : Rdr w lo g p) (m : Nat) : Rdr (w.drewN m) lo g p := h
/-- Written elsewhere alone. -/
theorem Rdr.chg {w w' : World} {lo g p a b : Nat} (h : Rdr w lo g p) (hc : Chg a b w w') (ha : lo ≤ a) (hd : g < a ∨ b ≤ g) : Rdr w' lo g p := by
  have hlt := h.lt
  obtain ⟨A, n, c, bs, q, h1, h2, hg, hr, hn⟩ := h
  refine ⟨A, n, c, bs, q, h1, h2, by rw [hc.block g hlt (by omega)]; exact hg, hr.keep (fun p hp => ?_), hn⟩
  exact World.cell?_of_block (w := w) (hc.block p.block (by omega) (.inl (by omega)))
end Go.Proofs.Ytlbiioncpeondaa
