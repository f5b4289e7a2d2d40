/- Walks: ReadDeed of the program, joined; the laws FnExactReadDeed, FnDeedText, FnReadDeed. -/
import Derived.Test.YtoinlkdmfclnbaaGreatDoorW118
import Derived.Test.YtoinlkdmfclnbaaGreatDoorW117
import Derived.Test.YtoinlkdmfclnbaaGreatDoorW114
import Derived.Test.YtoinlkdmfclnbaaGreatDoorV14
import Derived.Test.YtoinlkdmfclnbaaGreatDoorV4
namespace Go.Proofs.YtoinlkdmfclnbaaGreatDoor
set_option linter.unusedVariables false
open Go.RowKit

theorem rdV_w {l : List UInt8} {kd a b : Int} {x : List UInt8} (h0 : l ≠ []) (h : rdW l = some (kd, a, b, x)) :
    (dtL kd a b x = l → rdV l = ((kd, a, b, x), true)) ∧ (¬ dtL kd a b x = l → rdV l = ((0, 0, 0, []), false)) := by
  unfold rdV
  rw [h]
  exact ⟨fun h1 => if_pos ⟨h0, h1⟩, fun h1 => if_neg (fun h2 => h1 h2.2)⟩
theorem rdV_wn {l : List UInt8} (h : rdW l = none) : rdV l = ((0, 0, 0, []), false) := by unfold rdV; rw [h]
theorem readDeed_c (s : ByteArray) (w : World) (hsz : s.size ≤ 2000000) (hg : Glo w) :
    Calls Tryz.prog 41 #[.string s] w (RdOut (rdV s.data.toList) w) := by
  obtain ⟨u, v, b, hc, hlen⟩ := cutX s.data.toList
  have hll : s.data.toList.length = s.size := by rw [Array.length_toList]; rfl
  have hv : v.length ≤ 2000000 := by omega
  have hne : ∀ {c : UInt8} {r : List UInt8}, u = c :: r → s.data.toList ≠ [] := fun hu h0 => by
    rw [h0] at hc
    have := congrArg Prod.fst hc
    rw [hu] at this
    cases this
  have hW : rdW s.data.toList = (if u = wLead then (if v.length = 3 then (some (0, ((v.getD 0 0).toNat : Int) - 48, ((v.getD 2 0).toNat : Int) - 48, []) : Option (Int × Int × Int × List UInt8)) else none)
      else if u = wBehind then some (1, 0, 0, v)
      else if u = wPower then (match Lib.atoiAll v with | .ok n => some (2, n, 0, []) | _ => none)
      else if u = wName then some (3, 0, 0, v)
      else if u = wBack then some (4, 0, 0, [])
      else none) := by
    unfold rdW
    rw [hc]
    simp only
    split
    · rfl
    · split
      · rfl
      · split
        · cases Lib.atoiAll v <;> rfl
        · rfl
  by_cases h1 : u = wLead
  · have h0 := hne h1
    rw [if_pos h1] at hW
    subst h1
    by_cases h3 : v.length = 3
    · rw [if_pos h3] at hW
      match v, h3 with
      | [x, y, z], _ =>
        have hr := rdV_w h0 hW
        exact rdd_lead s w hsz hg x y z b hc _ _ rfl rfl _ hr.1 hr.2
    · rw [if_neg h3] at hW
      rw [rdV_wn hW]
      exact rdd_leadN s w hsz hg v b hv h3 hc
  rw [if_neg h1] at hW
  by_cases h2 : u = wBehind
  · have h0 := hne h2
    rw [if_pos h2] at hW
    subst h2
    have hr := rdV_w h0 hW
    exact rdd_behind s w hsz hg v b hv hc _ hr.1 hr.2
  rw [if_neg h2] at hW
  by_cases h3 : u = wPower
  · have h0 := hne h3
    rw [if_pos h3] at hW
    subst h3
    by_cases hn : ∃ n, Lib.atoiAll v = .ok n
    · obtain ⟨n, hn⟩ := hn
      rw [hn] at hW
      have hr := rdV_w h0 hW
      exact rdd_power s w hsz hg v b n hv hn hc _ hr.1 hr.2
    · have hn' : ∀ n, Lib.atoiAll v ≠ .ok n := fun n h => hn ⟨n, h⟩
      have hW2 : rdW s.data.toList = none := by
        rw [hW]
        split
        · rename_i n h
          exact absurd h (hn' n)
        · rfl
      rw [rdV_wn hW2]
      exact rdd_powerN s w hsz hg v b hv hn' hc
  rw [if_neg h3] at hW
  by_cases h4 : u = wName
  · have h0 := hne h4
    rw [if_pos h4] at hW
    subst h4
    have hr := rdV_w h0 hW
    exact rdd_name s w hsz hg v b hv hc _ hr.1 hr.2
  rw [if_neg h4] at hW
  by_cases h5 : u = wBack
  · have h0 := hne h5
    rw [if_pos h5] at hW
    subst h5
    have hr := rdV_w h0 hW
    exact rdd_back s w hsz hg v b hc _ hr.1 hr.2
  rw [if_neg h5] at hW
  rw [rdV_wn hW]
  exact rdd_other s w hsz hg u v b hc h1 h2 h3 h4 h5
end Go.Proofs.YtoinlkdmfclnbaaGreatDoor
