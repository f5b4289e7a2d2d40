/- Walks: l1Number (reference): a number in decimal. -/
import Derived.Test.YtoinlkdmfclnbaaGreatDoorV9
import Derived.Test.YtoinlkdmfclnbaaGreatDoorV4
import Derived.Test.YtoinlkdmfclnbaaGreatDoorM21
namespace Go.Proofs.YtoinlkdmfclnbaaGreatDoor
set_option linter.unusedVariables false
open Go.RowKit

/-- the text of a row of bytes -/
def bl (l : List UInt8) : ByteArray := ⟨l.toArray⟩
theorem bl_app (a b : List UInt8) : bl a ++ bl b = bl (a ++ b) := by
  apply ByteArray.ext
  simp [bl]
theorem bl_of (s : ByteArray) : bl s.data.toList = s := by simp [bl]
theorem bl_list (l : List UInt8) : (bl l).data.toList = l := by simp [bl]
theorem bl_size (l : List UInt8) : (bl l).size = l.length := by simp [bl, ByteArray.size]
theorem bl_inj {a b : List UInt8} (h : bl a = bl b) : a = b := by rw [← bl_list a, h, bl_list]
theorem dig_bl (d : Nat) : dig d = bl [UInt8.ofNat (48 + d)] := rfl
def decX (n : Nat) : ByteArray := bl (Lib.decDigits n)
theorem decX_small {n : Nat} (h : n < 10) : decX n = dig n := by unfold decX; rw [Lib.decDigits_one h]; rfl
theorem decX_big {n : Nat} (h : ¬ n < 10) : decX n = decX (n / 10) ++ dig (n % 10) := by
  unfold decX
  rw [dig_bl, bl_app]
  conv => lhs; rw [Lib.decDigits, dif_neg h]
theorem decX_size : ∀ n : Nat, (decX n).size ≤ n + 1 := by
  intro n
  induction n using Nat.strongRecOn with
  | _ n ih =>
    by_cases h : n < 10
    · rw [decX_small h]; show 1 ≤ n + 1; omega
    · rw [decX_big h, ByteArray.size_append]
      have := ih (n / 10) (by omega)
      have e : (dig (n % 10)).size = 1 := rfl
      omega
theorem conv_c (V : World) (g d : Nat) (hd : d ≤ 9) (hc : V.cell? ⟨g, 0, none⟩ = some (.int .u8 (48 + (d : Int)))) :
    (convert 22 9 (.slice (some ⟨g, 0, none⟩) 1 1)).run Tryz.prog V = .ok (.string (dig d)) V :=
  Lib.run_convert_whole (P := Tryz.prog) _ 22 5 9 Tryz.underlying22 Tryz.underlying5 Tryz.underlying9 g 0 (dig d) (dig_bytes d _ _ hd hc) 1
set_option maxRecDepth 100000 in
set_option maxHeartbeats 1600000 in
theorem l1Number_c : ∀ (n : Nat) (w : World), n ≤ 1000000000000 →
    Calls Tryz.prog 51 #[.int .i64 (n : Int)] w fun e w' => e = .returned (.string (decX n)) ∧ Below w.heap.size w w' := by
  intro n
  induction n using Nat.strongRecOn with
  | _ n ih =>
    intro w hn
    by_cases h : n < 10
    · rw [decX_small h]
      exact l1Number_d n w (by omega)
    · obtain ⟨q, hq⟩ : ∃ q : Nat, n / 10 = q := ⟨_, rfl⟩
      obtain ⟨d, hd⟩ : ∃ d : Nat, n % 10 = d := ⟨_, rfl⟩
      have hqi : (n : Int) / 10 = (q : Int) := by omega
      have hdi : (n : Int) % 10 = (d : Int) := by omega
      have hqt : (n : Int).tdiv 10 = (q : Int) := by rw [Int.tdiv_eq_ediv_of_nonneg (by omega)]; omega
      have hdt : (n : Int).tmod 10 = (d : Int) := by rw [Int.tmod_eq_emod_of_nonneg (by omega)]; omega
      have hd9 : d ≤ 9 := by omega
      have K := fun W => ih q (by omega) W (by omega)
      have HX : Hid (decX n = decX q ++ dig d) := Lib.hid (by rw [decX_big h, hq, hd])
      have hna : ¬ (9223372036854775807 < (decX q).size + (dig d).size) := by
        have := decX_size q
        rw [show (dig d).size = 1 from rfl]; omega
      have hwr : IntKind.u8.wrap (48 + (d : Int)) = 48 + (d : Int) := (by decide : ∀ d : Fin 10, IntKind.u8.wrap (48 + ((d : Nat) : Int)) = 48 + ((d : Nat) : Int)) ⟨d, by omega⟩
      have h10 : ¬ (n : Int) < 10 := by omega
      have hw1 : IntKind.i64.wrap (q : Int) = (q : Int) := IntWalk.i64_in _ (by omega)
      have hw2 : IntKind.i64.wrap (48 + (d : Int)) = 48 + (d : Int) := IntWalk.i64_in _ (by omega)
      clear hq hd h ih
      generalize decX n = T at *
      generalize decX q = U at *
      have hb0 : Below w.heap.size w w.drew := bd (Below.refl _ _) 1
      have hbA : Below w.heap.size w (World.drew (w.alloc (.cells #[.int .u8 (48 + (d : Int))] 5))) := bd ((Below.refl _ _).alloc (Nat.le_refl _) _) 1
      have kA : (convert 22 9 (.slice (some ⟨w.heap.size, 0, none⟩) 1 1)).run Tryz.prog (World.drew (w.alloc (.cells #[.int .u8 (48 + (d : Int))] 5))) = .ok (.string (dig d)) (World.drew (w.alloc (.cells #[.int .u8 (48 + (d : Int))] 5))) :=
        conv_c _ w.heap.size d hd9 ((World.cell?_alloc_at _ _ _ _ rfl).trans rfl)
      have cA : World.cell? (World.drew (w.alloc (.cells #[.int .u8 (48 + (d : Int))] 5))) ⟨w.heap.size, 0, none⟩ = some (.int .u8 (48 + (d : Int))) := (World.cell?_alloc_at _ _ _ _ rfl).trans rfl
      have HC := Lib.hid cA
      have HB := Lib.hid hbA
      have HB0 := Lib.hid hb0
      clear cA hbA hb0
      go_enter Tryz.func51, Tryz.ntmps51
      go_wp2_with fail
      go_region_with (first
        | (go_at_call 51; with_reducible refine (K _).mono ?_; rintro e w3 ⟨rfl, hb3⟩; (first | (have hB3 : Below w.heap.size w w3 := (by with_reducible exact bt HB.out hb3); have kB := conv_c w3 w.heap.size d hd9 ((hb3.cell (p := ⟨w.heap.size, 0, none⟩) (by simp)).trans HC.out)) | (have hB3 : Below w.heap.size w w3 := (by with_reducible exact bt HB0.out hb3); have kB := conv_c (w3.alloc (.cells #[.int .u8 (48 + (d : Int))] 5)) w3.heap.size d hd9 ((World.cell?_alloc_at _ _ _ _ rfl).trans rfl))))
      )
      all_goals
        go_wp2_with fail
        go_ret
        exact ⟨by rw [HX.out]; rfl, by first | exact hB3 | exact hB3.alloc hB3.size _⟩
end Go.Proofs.YtoinlkdmfclnbaaGreatDoor
