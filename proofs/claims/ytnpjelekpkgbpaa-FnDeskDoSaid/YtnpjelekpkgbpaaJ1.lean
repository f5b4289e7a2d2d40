/- strings.Join: the kit's contract at this seat. Printed by gen_join.py. -/
import Derived.Test.YtnpjelekpkgbpaaT1
import Derived.Test.YtnpjelekpkgbpaaM23
import Derived.Shelf.Strings.OnBuilder
import Derived.WalkSmall
namespace Go.Proofs.Ytnpjelekpkgbpaa
open Go.Shelf Go.RowKit
set_option linter.unusedVariables false

def jRen : Go.Shelf.Ren := ⟨fun | 156 => 82 | 165 => 94 | 166 => 95 | 169 => 96 | 240 => 106 | 241 => 107 | 276 => 112 | 277 => 113 | n => n, fun | 0 => 0 | 3 => 3 | 4 => 4 | 5 => 5 | 9 => 9 | 20 => 20 | 31 => 90 | 37 => 39 | 70 => 98 | 72 => 100 | 75 => 103 | 76 => 104 | 80 => 106 | 127 => 114 | 164 => 118 | n => n, fun n => n⟩
theorem jLays156 : Go.Proofs.Lays.n156 Try.prog jRen := {
  mixed := by kernel_rfl
  f156 := Try.func82.trans (congrArg some (by kernel_rfl))
  f165 := Try.func94.trans (congrArg some (by kernel_rfl))
  f166 := Try.func95.trans (congrArg some (by kernel_rfl))
  f169 := Try.func96.trans (congrArg some (by kernel_rfl))
  f240 := Try.func106.trans (congrArg some (by kernel_rfl))
  f241 := Try.func107.trans (congrArg some (by kernel_rfl))
  f276 := Try.func112.trans (congrArg some (by kernel_rfl))
  f277 := Try.func113.trans (congrArg some (by kernel_rfl))
  t0 := Try.underlying0
  a0 := Try.isAgg0
  z0 := Try.sizeOf0
  v0 := Try.zeroValue0
  t3 := Try.underlying3
  a3 := Try.isAgg3
  z3 := Try.sizeOf3
  v3 := Try.zeroValue3
  t4 := Try.underlying4
  a4 := Try.isAgg4
  z4 := Try.sizeOf4
  v4 := Try.zeroValue4
  t9 := Try.underlying9
  a9 := Try.isAgg9
  z9 := Try.sizeOf9
  v9 := Try.zeroValue9
  t20 := Try.underlying20
  a20 := Try.isAgg20
  z20 := Try.sizeOf20
  v20 := Try.zeroValue20
  t31 := Try.underlying90
  a31 := Try.isAgg90
  z31 := Try.sizeOf90
  v31 := Try.zeroValue90
  t37 := Try.underlying39
  a37 := Try.isAgg39
  z37 := Try.sizeOf39
  v37 := Try.zeroValue39
  t70 := Try.underlying98
  a70 := Try.isAgg98
  z70 := Try.sizeOf98
  v70 := Try.zeroValue98
  t72 := Try.underlying100
  a72 := Try.isAgg100
  z72 := Try.sizeOf100
  v72 := Try.zeroValue100
  t75 := Try.underlying103
  a75 := Try.isAgg103
  z75 := Try.sizeOf103
  v75 := Try.zeroValue103
  t76 := Try.underlying104
  a76 := Try.isAgg104
  z76 := Try.sizeOf104
  v76 := Try.zeroValue104
  t127 := Try.underlying114
  a127 := Try.isAgg114
  z127 := Try.sizeOf114
  v127 := Try.zeroValue114
  t164 := Try.underlying118
  a164 := Try.isAgg118
  z164 := Try.sizeOf118
  v164 := Try.zeroValue118 }
theorem jExtra : Builder.Extra Try.prog jRen := {
  sizeBuilder := by kernel_rfl
  liesBuilder := by kernel_rfl
  t5 := Try.underlying5
  a5 := Try.isAgg5
  z5 := Try.sizeOf5
  v5 := Try.zeroValue5
  infoByte := by kernel_rfl
  cellsByte := by kernel_rfl
  sizeByte := by kernel_rfl
  neB5 := by decide }
/-- the bytes of texts, and back -/
def bys (ts : List ByteArray) : List Tx := ts.map (·.data.toList)
def txs (l : List Tx) : List ByteArray := l.map (fun t => ⟨t.toArray⟩)
theorem bys_txs (l : List Tx) : bys (txs l) = l := by unfold bys txs; rw [List.map_map]; exact (List.map_congr_left fun x _ => by simp).trans (List.map_id' l)
theorem txs_len (l : List Tx) : (txs l).length = l.length := by simp [txs]
theorem join_c (A : Option Addr) (n c : Nat) (l : List Tx) (sep : ByteArray) (w : World) (h : RdT w w.heap.size A n c (txs l)) (hn : n ≤ 1000) (hlen : (Lib.join l sep.data.toList).length ≤ 140737488355328) :
    Calls Try.prog 82 #[.slice A n c, .string sep] w fun e w' => e = .returned (.string ⟨(Lib.join l sep.data.toList).toArray⟩) ∧ Below w.heap.size w w' := by
  have hl := h.len
  rcases n with _ | n
  · have e : l = [] := by rw [txs_len] at hl; exact List.eq_nil_of_length_eq_zero hl
    subst e
    exact (Any.strings_Join_none jLays156 jExtra A c sep w).mono fun e w' ⟨h1, h2⟩ => ⟨h1, h2 ▸ Below.refl _ _⟩
  · obtain ⟨b, off, rfl, hb, h0⟩ := h.at_ (k := 0) (by omega)
    have := Any.strings_Join jLays156 jExtra b off c (txs l) sep w (fun j x hx => by
      have hj : j < (txs l).length := by
        rcases Nat.lt_or_ge j (txs l).length with h1 | h1
        · exact h1
        · rw [List.getElem?_eq_none h1] at hx; cases hx
      obtain ⟨b', off', e, _, h1⟩ := h.at_ (k := j) (by omega)
      cases e
      rw [h1, gT_get hj]
      rw [List.getElem?_eq_getElem hj] at hx
      exact congrArg (fun z => some (Value.string z)) (Option.some.inj hx)) hb (by omega) (by rw [hl]; exact h.cap) (by rw [show (txs l).map (·.data.toList) = l from bys_txs l]; exact hlen)
    rw [hl, show (txs l).map (·.data.toList) = l from bys_txs l] at this
    exact this
end Go.Proofs.Ytnpjelekpkgbpaa
