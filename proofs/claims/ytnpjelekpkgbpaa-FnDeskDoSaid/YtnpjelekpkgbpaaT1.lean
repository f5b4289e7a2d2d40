/- Words for rows of texts: read, and of the call's own. -/
import Derived.Test.YtnpjelekpkgbpaaQ
namespace Go.Proofs.Ytnpjelekpkgbpaa
set_option linter.unusedVariables false
open Go.RowKit

def gT (ts : List ByteArray) (k : Nat) : ByteArray := ts.getD k ⟨#[]⟩
theorem gT_get {ts : List ByteArray} {k : Nat} (h : k < ts.length) : gT ts k = ts[k] := by simp [gT, List.getD, List.getElem?_eq_getElem h]
/-- The slice value '.slice A n c' reads as the texts ts, below block B. -/
def RdT (w : World) (B : Nat) (A : Option Addr) (n c : Nat) (ts : List ByteArray) : Prop :=
  ts.length = n ∧ n ≤ c ∧ c ≤ maxLen ∧ (0 < n → ∃ b off, A = some ⟨b, off, none⟩ ∧ b < B ∧ ∀ k, k < n → w.cell? ⟨b, off + k, none⟩ = some (.string (gT ts k)))
/-- The value v is a slice of texts of the call's own, from block B on. -/
def OwnS (w : World) (B : Nat) (v : Value) (ts : List ByteArray) : Prop := w.ownsRow B 9 1 v ts.length (ts.map Value.string)
section
variable {w w' : World} {B B' n c lo hi : Nat} {A : Option Addr} {ts : List ByteArray} {v : Value}
theorem RdT.len (h : RdT w B A n c ts) : ts.length = n := h.1
theorem RdT.cap (h : RdT w B A n c ts) : n ≤ c := h.2.1
theorem RdT.max (h : RdT w B A n c ts) : c ≤ maxLen := h.2.2.1
theorem RdT.at_ (h : RdT w B A n c ts) {k : Nat} (hk : k < n) : ∃ b off, A = some ⟨b, off, none⟩ ∧ b < B ∧ w.cell? ⟨b, off + k, none⟩ = some (.string (gT ts k)) := by
  obtain ⟨b, off, e, hb, hc⟩ := h.2.2.2 (by omega)
  exact ⟨b, off, e, hb, hc k hk⟩
theorem RdT.nil_ (w : World) (B : Nat) : RdT w B none 0 0 [] := ⟨rfl, Nat.le_refl _, Nat.zero_le _, fun h => absurd h (by omega)⟩
theorem RdT.keep (h : RdT w B A n c ts) (hk : ∀ p : Addr, p.block < B → w'.cell? p = w.cell? p) : RdT w' B A n c ts :=
  ⟨h.1, h.2.1, h.2.2.1, fun hn => by
    obtain ⟨b, off, e, hb, hc⟩ := h.2.2.2 hn
    exact ⟨b, off, e, hb, fun k hk' => (hk _ hb).trans (hc k hk')⟩⟩
theorem RdT.more (h : RdT w B A n c ts) (hB : B ≤ B') : RdT w B' A n c ts :=
  ⟨h.1, h.2.1, h.2.2.1, fun hn => by
    obtain ⟨b, off, e, hb, hc⟩ := h.2.2.2 hn
    exact ⟨b, off, e, by omega, hc⟩⟩
theorem RdT.below (h : RdT w B A n c ts) (hb : Below B w w') : RdT w' B A n c ts := h.keep fun _ hp => hb.cell hp
theorem RdT.up (h : RdT w w.heap.size A n c ts) (hb : Below w.heap.size w w') : RdT w' w'.heap.size A n c ts := (h.below hb).more hb.size
theorem RdT.dn (h : RdT w w.heap.size A n c ts) (m : Nat) : RdT (w.drewN m) (w.drewN m).heap.size A n c ts := h.keep fun _ _ => rfl
theorem OwnS.nil_ (w : World) (B : Nat) : OwnS w B (.slice none 0 0) [] := World.ownsRow_nil _ _ _ _
theorem OwnS.made (w : World) (B : Nat) (cur : Array Value) (hB : B ≤ w.heap.size) (hs : cur.size = 0) : OwnS (w.alloc (.cells cur 9)) B (.slice (some ⟨w.heap.size, 0, none⟩) 0 0) [] :=
  World.ownsRow_made w cur 0 hB (Nat.zero_le _) (by simpa using hs)
theorem OwnS.up (h : OwnS w B v ts) (hb : Below w.heap.size w w') : OwnS w' B v ts := by
  refine ⟨h.1, ?_⟩
  rcases h.2 with h0 | ⟨g, cap, cur, e, hg, hh, r⟩
  · exact .inl h0
  · exact .inr ⟨g, cap, cur, e, hg, by rw [hb.block g (Array.getElem?_eq_some_iff.1 hh).1]; exact hh, r⟩
theorem OwnS.dn (h : OwnS w B v ts) (m : Nat) : OwnS (w.drewN m) B v ts := h
theorem OwnS.chg (h : OwnS w B v ts) (hc : Chg lo hi w w') (hd : hi ≤ B) : OwnS w' B v ts := by
  refine ⟨h.1, ?_⟩
  rcases h.2 with h0 | ⟨g, cap, cur, e, hg, hh, r⟩
  · exact .inl h0
  · exact .inr ⟨g, cap, cur, e, hg, by rw [hc.block g (Array.getElem?_eq_some_iff.1 hh).1 (.inr (by omega))]; exact hh, r⟩
theorem OwnS.lt (h : OwnS w B v ts) : ∀ k, v.ownBlock = some k → B ≤ k ∧ k < w.heap.size := fun k hk => World.ownsRow.lt h k hk
/-- what is of the call's own can be read -/
theorem OwnS.slice_ (h : OwnS w B v ts) : ∃ A c, v = .slice A ts.length c ∧ RdT w w.heap.size A ts.length c ts := by
  have hh := h
  rcases h.2 with ⟨rfl, h0⟩ | ⟨g, cap, cur, rfl, hb, hg, hnc, hcm, hcs, ht⟩
  · rw [h0]; exact ⟨none, 0, rfl, by rw [List.length_eq_zero_iff.1 h0]; exact RdT.nil_ _ _⟩
  · refine ⟨_, _, rfl, rfl, hnc, hcm, fun _ => ⟨g, 0, rfl, (Array.getElem?_eq_some_iff.1 hg).1, fun k hk => ?_⟩⟩
    have := World.ownsRow.cellAt hh k (by simpa using hk)
    rw [Nat.zero_add, this]
    simp [gT, List.getD, List.getElem?_eq_getElem hk]
end
theorem text_info : (Try.prog.info? 9).map (fun i => (i.zero, i.size, i.bytes)) = some (some (.string ⟨#[]⟩), 1, 16) := by kernel_rfl
theorem app_text {ops : Array Oper} {rest : List Oper} {o : Oper} {a : Act} {Q : Exit → Act → World → Prop} (w : World) (y : ByteArray) (hgd : o.guard = none) (s x : Operand)
    (ho : o.op = .call { callee := .builtin .append, args := #[s, x], argTypes := #[90, 90] })
    (B : Nat) (v : Value) (ts : List ByteArray) (hs : a.eval s = v) (hown : OwnS w B v ts) (hx : a.eval x = .slice (some ⟨w.heap.size, 0, none⟩) 1 1)
    (hlen : ts.length ≤ 1000000000000) (hB : B ≤ w.heap.size)
    (h : ∀ v' w', OwnS w' B v' (ts ++ [y]) → Below B w w' → wpList Try.prog ops Q rest (a.put o.dst v') w') :
    wpList Try.prog ops Q (o :: rest) a (w.alloc (.cells #[.string y] 9)) := by
  obtain ⟨i0, hi, hz0, hz1, hz2⟩ := info_parts text_info
  refine wpList_append_own _ hgd s x 90 ho B 9 i0 (.string ⟨#[]⟩) 1 16 Try.underlying90 hi hz0 hz1 hz2 rfl (by decide) v ts.length (ts.map Value.string) hs (hown.alloc _) ⟨w.heap.size, 0, none⟩ 1 1 [.string y] hx rfl (cell_one_new _ _ _) (by simp [Value.oneCell']) (by unfold maxLen; omega) (by omega) (by simp; omega) ?_
  intro v' w' hown' hg _
  refine h v' w' ?_ ?_
  · unfold OwnS
    rw [List.length_append, List.map_append]
    exact hown'
  · refine ((Below.refl B w).alloc hB _).grown hg (by simp; omega) (fun k hk => (hown.lt k hk).1)
end Go.Proofs.Ytnpjelekpkgbpaa
