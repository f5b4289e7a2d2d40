/- Bundle V5. -/
import Derived.Deep.RegionWith
import Derived.Deep.RegionHeld3
import Derived.Lib.LazyBuf
import Derived.Test.YtoinlkdmfclnbaaGreatDoorYQ
import Derived.Test.YtoinlkdmfclnbaaGreatDoorYV1
import Derived.Test.YtoinlkdmfclnbaaGreatDoorYV4
namespace Go.Proofs.YtoinlkdmfclnbaaGreatDoor
set_option linter.unusedVariables false
section
open Go.RowKit
def gR (xss : List (List Int)) (k : Nat) : List Int := xss.getD k []
theorem gR_get {xss : List (List Int)} {k : Nat} (hk : k < xss.length) : gR xss k = xss[k] := by simp [gR, List.getD, List.getElem?_eq_getElem hk]
theorem eq_of_gR {xss yss : List (List Int)} (hl : xss.length = yss.length) (h : ∀ k, k < xss.length → gR xss k = gR yss k) : xss = yss := by
 apply List.ext_getElem hl
 intro k h1 h2
 have := h k h1
 rwa [gR_get h1, gR_get h2] at this
def RdR (w : World) (B : Nat) (A : Option Addr) (n c : Nat) (xss : List (List Int)) : Prop :=
 xss.length = n ∧ n ≤ c ∧ c ≤ maxLen ∧ (0 < n → ∃ b off, A = some ⟨b, off, none⟩ ∧ b < B ∧ ∀ k, k < n → ∃ A' n' c', w.cell? ⟨b, off + k, none⟩ = some (.slice A' n' c') ∧ Rd w B A' n' c' (gR xss k))
section
variable {w w' : World} {B B' n c : Nat} {A : Option Addr} {xss : List (List Int)}
theorem RdR.len (h : RdR w B A n c xss) : xss.length = n := h.1
theorem RdR.cap (h : RdR w B A n c xss) : n ≤ c := h.2.1
theorem RdR.max (h : RdR w B A n c xss) : c ≤ maxLen := h.2.2.1
theorem RdR.at_ (h : RdR w B A n c xss) {k : Nat} (hk : k < n) : ∃ b off A' n' c', A = some ⟨b, off, none⟩ ∧ b < B ∧ w.cell? ⟨b, off + k, none⟩ = some (.slice A' n' c') ∧ Rd w B A' n' c' (gR xss k) := by
 obtain ⟨b, off, e, hb, hc⟩ := h.2.2.2 (by omega)
 obtain ⟨A', n', c', h1, h2⟩ := hc k hk
 exact ⟨b, off, A', n', c', e, hb, h1, h2⟩
theorem RdR.nil_ (w : World) (B : Nat) : RdR w B none 0 0 [] := ⟨rfl, Nat.le_refl _, Nat.zero_le _, fun h => absurd h (by omega)⟩
theorem RdR.keep (h : RdR w B A n c xss) (hk : ∀ p : Addr, p.block < B → w'.cell? p = w.cell? p) : RdR w' B A n c xss :=
 ⟨h.1, h.2.1, h.2.2.1, fun hn => by
  obtain ⟨b, off, e, hb, hc⟩ := h.2.2.2 hn
  refine ⟨b, off, e, hb, fun k hk' => ?_⟩
  obtain ⟨A', n', c', h1, h2⟩ := hc k hk'
  exact ⟨A', n', c', (hk _ hb).trans h1, h2.keep hk⟩⟩
theorem RdR.more (h : RdR w B A n c xss) (hB : B ≤ B') : RdR w B' A n c xss :=
 ⟨h.1, h.2.1, h.2.2.1, fun hn => by
  obtain ⟨b, off, e, hb, hc⟩ := h.2.2.2 hn
  refine ⟨b, off, e, by omega, fun k hk' => ?_⟩
  obtain ⟨A', n', c', h1, h2⟩ := hc k hk'
  exact ⟨A', n', c', h1, h2.more hB⟩⟩
theorem RdR.below (h : RdR w B A n c xss) (hb : Below B w w') : RdR w' B A n c xss := h.keep fun _ hp => hb.cell hp
theorem RdR.up (h : RdR w w.heap.size A n c xss) (hb : Below w.heap.size w w') : RdR w' w'.heap.size A n c xss := (h.below hb).more hb.size
theorem RdR.dn (h : RdR w w.heap.size A n c xss) (m : Nat) : RdR (w.drewN m) (w.drewN m).heap.size A n c xss := h.keep fun _ _ => rfl
end
theorem qA {P : Program} {f : FuncId} {args : Array Value} {w : World} {a n : Nat} {v : Value}
    (h : Calls P f args (w.drewN (a + n)) fun e w' => e = .returned v ∧ ∃ m, w' = (w.drewN (a + n)).drewN m) : Calls P f args (w.drewN (a + n)) fun e w'' => e = .returned v ∧ ∃ m, w'' = w.drewN (a + m) :=
 h.mono fun _ _ ⟨he, m, hm⟩ => ⟨he, n + m, by rw [hm, World.drewN_drewN, Nat.add_assoc]⟩
def eqBB (xss yss : List (List Int)) : Bool := decide (xss = yss)
set_option maxRecDepth 100000 in
set_option maxHeartbeats 800000 in
theorem eqIntSS_c (A A' : Option Addr) (n c n' c' : Nat) (xs ys : List (List Int)) (w : World) (h : RdR w w.heap.size A n c xs) (h' : RdR w w.heap.size A' n' c' ys) :
    Calls Tryz.prog 76 #[.slice A n c, .slice A' n' c'] w fun e w' => e = .returned (.bool (eqBB xs ys)) ∧ ∃ m, w' = w.drewN m := by
 have HL := Lib.hid h.len
 have HL' := Lib.hid h'.len
 have hm := h.max
 have hc := h.cap
 have hm' := h'.max
 have hc' := h'.cap
 unfold maxLen at hm hm'
 by_cases hne : n = n'
 · subst hne
   go_enter Tryz.func76, Tryz.ntmps76
   go_wp2
   go_loopw [5] (fun i wr => ∃ k : Nat, k ≤ n ∧ i = .int .i64 k ∧ (∀ j, j < k → gR xs j = gR ys j) ∧ ∃ m, wr = w.drewN m) (fun i _ => n - (intOf i).toNat)
   case atStart => exact ⟨0, Nat.zero_le _, rfl, fun j hj => absurd hj (Nat.not_lt_zero _), 0, rfl⟩
   case round =>
    obtain ⟨k, hk, rfl, hall, m, rfl⟩ := hrel
    have HA := Lib.hid hall
    clear hall
    by_cases hlt : k < n
    · obtain ⟨b, off, A1, n1, c1, rfl, hb, hcell, hr⟩ := h.at_ hlt
      obtain ⟨b', off', A2, n2, c2, rfl, hb', hcell', hr'⟩ := h'.at_ hlt
      rcases he : eqB (gR xs k) (gR ys k) with _ | _
      · have HE := Lib.hid (of_decide_eq_false he)
        go_wp2
        go_quiet ((go_at_call 75; exact qA (eqIntS_c A1 A2 n1 c1 n2 c2 (gR xs k) (gR ys k) _ (hr.dn _) (hr'.dn _))))
        go_wp2
        go_ret
        exact ⟨boolEnd (decide_eq_false (fun e => HE.out (by rw [e]))).symm, _, World.drewN_drewN ..⟩
      · have HE := Lib.hid (of_decide_eq_true he)
        go_wp2
        go_quiet ((go_at_call 75; exact qA (eqIntS_c A1 A2 n1 c1 n2 c2 (gR xs k) (gR ys k) _ (hr.dn _) (hr'.dn _))))
        go_wp2
        go_roundw
        case rel => exact ⟨k + 1, by omega, by go_num, fun j hj => by
         rcases Nat.lt_or_ge j k with h' | h'
         · exact HA.out j h'
         · obtain rfl : j = k := by omega
           exact HE.out, _, rfl⟩
        case measure => simp [intOf]; omega
    · go_wp2
      go_ret
      exact ⟨boolEnd (decide_eq_true (eq_of_gR (by rw [HL.out, HL'.out]) (fun j hj => HA.out j (by have := HL.out; omega)))).symm, _, rfl⟩
 · have hq : ((n : Int) != (n' : Int)) = true := by simp; omega
   go_enter Tryz.func76, Tryz.ntmps76
   go_wp2
   go_ret
   exact ⟨boolEnd (decide_eq_false (fun e => hne (by rw [← HL.out, ← HL'.out, e]))).symm, 0, rfl⟩
def SzS (n : Nat) (left : Int) (w : World) (e : Ending) (w' : World) : Prop :=
 ∃ r : Int, e = .returned (.int .i64 r) ∧ w = w' ∧ -1 ≤ r ∧ r ≤ left ∧ (0 ≤ r → (n : Int) ≤ left)
set_option maxHeartbeats 400000 in
theorem szIntS_c (A : Option Addr) (n c : Nat) (xs : List Int) (left : Int) (w : World) (h : Rd w w.heap.size A n c xs) (h0 : 0 ≤ left) (h1 : left ≤ 1048576) :
    Calls Tryz.prog 71 #[.slice A n c, .int .i64 left] w (SzS n left w) := by
 have hm := h.max
 have hc := h.cap
 unfold maxLen at hm
 by_cases hn : (n : Int) ≤ left
 · go_enter Tryz.func71, Tryz.ntmps71
   go_wp2
   go_ret
   exact ⟨_, rfl, rfl, by omega, by omega, fun _ => hn⟩
 · go_enter Tryz.func71, Tryz.ntmps71
   go_wp2
   go_ret
   exact ⟨_, rfl, rfl, by omega, by omega, fun h => by omega⟩
end
section
open Go.RowKit
theorem row_info : (Tryz.prog.info? 23).map (fun i => (i.zero, i.size, i.bytes)) = some (some (.slice none 0 0), 1, 24) := by kernel_rfl
def RdD (w : World) (B : Nat) (A : Option Addr) (n c : Nat) (xs : List Int) (P : Option Addr) (m d : Nat) (yss : List (List Int)) : Prop := Rd w B A n c xs ∧ RdR w B P m d yss
end
section
open Go.RowKit
def deskOkB (xs : List Int) (yss : List (List Int)) : Bool := mapOk xs && decide (yss.length ≤ 8) && yss.all mapOk
theorem all_gR {yss : List (List Int)} (h : ∀ k, k < yss.length → mapOk (gR yss k) = true) : yss.all mapOk = true := by
 rw [List.all_eq_true]
 intro x hx
 obtain ⟨k, hk, rfl⟩ := List.getElem_of_mem hx
 rw [← gR_get hk]; exact h k hk
theorem all_not {yss : List (List Int)} {k : Nat} (hk : k < yss.length) (h : mapOk (gR yss k) = false) : yss.all mapOk = false := by
 rw [gR_get hk] at h
 rw [List.all_eq_false]
 exact ⟨_, List.getElem_mem hk, by rw [h]; decide⟩
theorem desk_no1 {xs : List Int} {yss : List (List Int)} (h : mapOk xs = false) : deskOkB xs yss = false := by simp [deskOkB, h]
theorem desk_no2 {xs : List Int} {yss : List (List Int)} (h : ¬ yss.length ≤ 8) : deskOkB xs yss = false := by simp [deskOkB, h]
theorem desk_no3 {xs : List Int} {yss : List (List Int)} {k : Nat} (hk : k < yss.length) (h : mapOk (gR yss k) = false) : deskOkB xs yss = false := by rw [deskOkB, all_not hk h]; simp
theorem desk_yes {xs : List Int} {yss : List (List Int)} (h : mapOk xs = true) (h8 : yss.length ≤ 8) (ha : ∀ k, k < yss.length → mapOk (gR yss k) = true) : deskOkB xs yss = true := by rw [deskOkB, all_gR ha]; simp [h, h8]
set_option maxRecDepth 100000 in
set_option maxHeartbeats 800000 in
theorem deskOk_c (A P : Option Addr) (n c m d : Nat) (xs : List Int) (yss : List (List Int)) (w : World) (h : RdD w w.heap.size A n c xs P m d yss) :
    Calls Tryz.prog 15 #[.agg #[.slice A n c, .slice P m d]] w fun e w' => e = .returned (.bool (deskOkB xs yss)) ∧ Below w.heap.size w w' := by
 have hb1 : Below w.heap.size w (w.alloc (.cells #[.slice A n c, .slice P m d] 26)) := (Below.refl _ _).alloc (Nat.le_refl _) _
 have h1 := h.1.up hb1
 have h2 := h.2.up hb1
 have hl := h.2.len
 have hmx := h.2.max
 have hcp := h.2.cap
 unfold maxLen at hmx
 rcases hm : mapOk xs with _ | _
 · have HE := Lib.hid (desk_no1 (yss := yss) hm)
   go_enter Tryz.func15, Tryz.ntmps15
   go_wp2_with (go_at_call 68; refine (mapOk_c _ _ _ _ _ h1).mono ?_; rintro e w' ⟨rfl, rfl⟩)
   go_ret
   exact ⟨boolEnd HE.out.symm, hb1⟩
 by_cases h8 : m ≤ 8
 · go_enter Tryz.func15, Tryz.ntmps15
   go_wp2_with (go_at_call 68; refine (mapOk_c _ _ _ _ _ h1).mono ?_; rintro e w' ⟨rfl, rfl⟩)
   go_loopw [18] (fun i wr => ∃ k : Nat, k ≤ m ∧ i = .int .i64 k ∧ (∀ j, j < k → mapOk (gR yss j) = true) ∧ wr = w.alloc (.cells #[.slice A n c, .slice P m d] 26)) (fun i _ => m - (intOf i).toNat)
   case atStart => exact ⟨0, Nat.zero_le _, rfl, fun j hj => absurd hj (Nat.not_lt_zero _), rfl⟩
   case round =>
    obtain ⟨k, hk, rfl, hall, rfl⟩ := hrel
    have HA := Lib.hid hall
    clear hall
    by_cases hlt : k < m
    · obtain ⟨b, off, A1, n1, c1, rfl, hb, hcell, hr⟩ := h2.at_ hlt
      rcases hq : mapOk (gR yss k) with _ | _
      · have HE := Lib.hid (desk_no3 (xs := xs) (by omega) hq)
        go_wp2_with (go_at_call 68; refine (mapOk_c _ _ _ _ _ hr).mono ?_; rintro e w' ⟨rfl, rfl⟩)
        go_ret
        exact ⟨boolEnd HE.out.symm, hb1⟩
      · have HQ := Lib.hid hq
        go_wp2_with (go_at_call 68; refine (mapOk_c _ _ _ _ _ hr).mono ?_; rintro e w' ⟨rfl, rfl⟩)
        go_roundw
        case rel => exact ⟨k + 1, by omega, by go_num, fun j hj => by
         rcases Nat.lt_or_ge j k with h' | h'
         · exact HA.out j h'
         · obtain rfl : j = k := by omega
           exact HQ.out, trivial⟩
        case measure => simp [intOf]; omega
    · obtain rfl : k = m := by omega
      have HE := Lib.hid (desk_yes (yss := yss) hm (by omega) (by rw [hl]; exact HA.out))
      go_wp2
      go_ret
      exact ⟨boolEnd HE.out.symm, hb1⟩
 · have HE := Lib.hid (desk_no2 (xs := xs) (yss := yss) (by omega))
   go_enter Tryz.func15, Tryz.ntmps15
   go_wp2_with (go_at_call 68; refine (mapOk_c _ _ _ _ _ h1).mono ?_; rintro e w' ⟨rfl, rfl⟩)
   go_ret
   exact ⟨boolEnd HE.out.symm, hb1⟩
set_option maxRecDepth 100000 in
set_option maxHeartbeats 800000 in
theorem sDeskOk_c (A P : Option Addr) (n c m d : Nat) (xs : List Int) (yss : List (List Int)) (w : World) (h : RdD w w.heap.size A n c xs P m d yss) :
    Calls Tryz.prog 12 #[.agg #[.slice A n c, .slice P m d]] w fun e w' => e = .returned (.bool (deskOkB xs yss)) ∧ Below w.heap.size w w' := by
 have hb1 : Below w.heap.size w (w.alloc (.cells #[.slice A n c, .slice P m d] 26)) := (Below.refl _ _).alloc (Nat.le_refl _) _
 have h1 := h.1.up hb1
 have h2 := h.2.up hb1
 have hl := h.2.len
 have hmx := h.2.max
 have hcp := h.2.cap
 unfold maxLen at hmx
 go_enter Tryz.func12, Tryz.ntmps12
 go_wp2_with fail
 go_loopw [3] (fun i wr => ∃ k : Nat, k ≤ m ∧ i = .int .i64 k ∧ (∀ j, j < k → mapOk (gR yss j) = true) ∧ ∃ q, wr = (w.alloc (.cells #[.slice A n c, .slice P m d] 26)).drewN q) (fun i _ => m - (intOf i).toNat)
 case atStart => exact ⟨0, Nat.zero_le _, rfl, fun j hj => absurd hj (Nat.not_lt_zero _), 0, rfl⟩
 case round =>
  obtain ⟨k, hk, rfl, hall, q, rfl⟩ := hrel
  have HA := Lib.hid hall
  clear hall
  by_cases hlt : k < m
  · obtain ⟨b, off, A1, n1, c1, rfl, hb, hcell, hr⟩ := h2.at_ hlt
    rcases hq : mapOk (gR yss k) with _ | _
    · have HE := Lib.hid (desk_no3 (xs := xs) (by omega) hq)
      go_wp2_with (go_at_call 67; refine (sMapOk_c _ _ _ _ _ (hr.dn q)).mono ?_; rintro e w' ⟨rfl, rfl⟩)
      go_ret
      exact ⟨boolEnd HE.out.symm, bd hb1 _⟩
    · have HQ := Lib.hid hq
      go_wp2_with (go_at_call 67; refine (sMapOk_c _ _ _ _ _ (hr.dn q)).mono ?_; rintro e w' ⟨rfl, rfl⟩)
      go_roundw
      case rel => exact ⟨k + 1, by omega, by go_num, fun j hj => by
       rcases Nat.lt_or_ge j k with h' | h'
       · exact HA.out j h'
       · obtain rfl : j = k := by omega
         exact HQ.out, _, rfl⟩
      case measure => simp [intOf]; omega
  · obtain rfl : k = m := by omega
    rcases hm : mapOk xs with _ | _
    · have HE := Lib.hid (desk_no1 (yss := yss) hm)
      go_wp2_with (go_at_call 67; refine (sMapOk_c _ _ _ _ _ (h1.dn q)).mono ?_; rintro e w' ⟨rfl, rfl⟩)
      go_ret
      exact ⟨boolEnd HE.out.symm, bd hb1 _⟩
    · by_cases h8 : k ≤ 8
      · have HE := Lib.hid (desk_yes (yss := yss) hm (by omega) (by rw [hl]; exact HA.out))
        go_wp2_with (go_at_call 67; refine (sMapOk_c _ _ _ _ _ (h1.dn q)).mono ?_; rintro e w' ⟨rfl, rfl⟩)
        go_ret
        exact ⟨boolEnd ((decide_eq_true (by omega)).trans HE.out.symm), bd hb1 _⟩
      · have HE := Lib.hid (desk_no2 (xs := xs) (yss := yss) (by omega))
        go_wp2_with (go_at_call 67; refine (sMapOk_c _ _ _ _ _ (h1.dn q)).mono ?_; rintro e w' ⟨rfl, rfl⟩)
        go_ret
        exact ⟨boolEnd ((decide_eq_false (by omega)).trans HE.out.symm), bd hb1 _⟩
theorem eqBB_self (yss : List (List Int)) : eqBB yss yss = true := decide_eq_true rfl
theorem RdD.up {w w' : World} {A P : Option Addr} {n c m d : Nat} {xs : List Int} {yss : List (List Int)} (h : RdD w w.heap.size A n c xs P m d yss) (hb : Below w.heap.size w w') : RdD w' w'.heap.size A n c xs P m d yss := ⟨h.1.up hb, h.2.up hb⟩
end
section
open Go.RowKit
theorem app_row {ops : Array Oper} {rest : List Oper} {o : Oper} {a : Act} {Q : Exit → Act → World → Prop} (w : World) (hgd : o.guard = none) (s x : Operand)
    (ho : o.op = .call { callee := .builtin .append, args := #[s, x], argTypes := #[23, 23] })
    (B : Nat) (v : Value) (hs : a.eval s = v) (hown : OwnV w B v []) (A : Option Addr) (n c : Nat) (xs : List Int) (hx : a.eval x = .slice A n c) (hr : Rd w w.heap.size A n c xs) (h0 : 0 < n)
    (hlen : n ≤ 1000000000000) (hB : B ≤ w.heap.size)
    (h : ∀ v' w', OwnV w' B v' xs → Below B w w' → wpList Tryz.prog ops Q rest (a.put o.dst v') w') :
    wpList Tryz.prog ops Q (o :: rest) a w := by
 obtain ⟨i0, hi, hz0, hz1, hz2⟩ := info_parts int_info
 obtain ⟨b, off, rfl, hb, hcell⟩ := hr.2.2.2 h0
 have hl := hr.len
 refine wpList_append_own _ hgd s x 23 ho B 3 i0 (.int .i64 0) 1 8 Tryz.underlying23 hi hz0 hz1 hz2 rfl (by decide) v 0 [] hs (by simpa [OwnV] using hown) ⟨b, off, none⟩ n c (xs.map (Value.int .i64)) hx (by simp [hl]) (fun j u hj => ?_) (by simp [Value.oneCell']) (by unfold maxLen; omega) (by omega) (by simpa using hB) ?_
 · have hjn : j < n := by
    rcases Nat.lt_or_ge j (xs.map (Value.int .i64)).length with h' | h'
    · rw [List.length_map, hl] at h'; exact h'
    · rw [List.getElem?_eq_none h'] at hj; cases hj
   rw [Addr.add_lit, hcell j hjn]
   rw [List.getElem?_map, List.getElem?_eq_getElem (by omega)] at hj
   simp only [Option.map_some, Option.some.injEq] at hj
   rw [← hj, gI_get (by omega)]
 · intro v' w' hown' hg _
   refine h v' w' ?_ ((Below.refl B w).grown hg hB (fun k hk => (hown.lt k hk).1))
   unfold OwnV
   rw [hl]
   simpa using hown'
set_option maxHeartbeats 400000 in
theorem clone_c (A : Option Addr) (n c : Nat) (xs : List Int) (w : World) (h : Rd w w.heap.size A n c xs) (h0 : 0 < n) (hn : n ≤ 1000000000000) :
    Calls Tryz.prog 100 #[.slice A n c] w fun e w' => ∃ A' c', e = .returned (.slice A' n c') ∧ OwnIn w' w.heap.size w'.heap.size A' n c' xs ∧ Below w.heap.size w w' := by
 obtain ⟨b, off, rfl, hb, hcell⟩ := h.2.2.2 h0
 have hl := h.len
 have hb1 : Below w.heap.size w (w.alloc (.cells #[] 3)) := (Below.refl _ _).alloc (Nat.le_refl _) _
 have hO := OwnV.made w w.heap.size #[] (Nat.le_refl _) rfl
 have hrd := h.up hb1
 have hs1 := hb1.size
 have hnil : (binOp .eql 23 (.slice (some ⟨b, off, none⟩) n c) (.slice none 0 0)).run Tryz.prog w = .ok (.bool false) w := by
  apply Lib.run_eql_slice_nil
  exact Tryz.underlying23
 go_enter Tryz.func100, Tryz.ntmps100
 go_wp2_with (at_builtin; refine app_row (w.alloc (.cells #[] 3)) rfl _ _ rfl w.heap.size _ rfl hO (some ⟨b, off, none⟩) n c xs rfl hrd h0 hn hs1 ?_; intro v' w' hown' hb')
 obtain ⟨A', c', rfl, hown⟩ := hown'.form
 go_ret
 exact ⟨A', c', by rw [← hl]; rfl, by rw [← hl]; exact hown.inn, hb1.trans hb'⟩
def NewOut (w : World) (xs : List Int) (e : Ending) (w' : World) : Prop :=
 ∃ A n c, e = .returned (.tuple #[.agg #[.slice A n c, .slice none 0 0], .bool (mapOk xs)]) ∧ OwnIn w' w.heap.size w'.heap.size A n c (if mapOk xs then xs else []) ∧ Below w.heap.size w w'
theorem mapOk_bounds {xs : List Int} (h : mapOk xs = true) : 1 ≤ xs.length ∧ xs.length ≤ 7 := by
 unfold mapOk at h
 simp only [Bool.and_eq_true, decide_eq_true_eq] at h
 exact h.1
set_option maxRecDepth 100000 in
set_option maxHeartbeats 800000 in
theorem sameRows_c (A A' : Option Addr) (n c n' c' : Nat) (xs ys : List (List Int)) (w : World) (h : RdR w w.heap.size A n c xs) (h' : RdR w w.heap.size A' n' c' ys) :
    Calls Tryz.prog 66 #[.slice A n c, .slice A' n' c'] w fun e w' => e = .returned (.bool (eqBB xs ys)) ∧ ∃ m, w' = w.drewN m := by
 have HL := Lib.hid h.len
 have HL' := Lib.hid h'.len
 have hm := h.max
 have hc := h.cap
 have hm' := h'.max
 have hc' := h'.cap
 unfold maxLen at hm hm'
 by_cases hne : n = n'
 · subst hne
   go_enter Tryz.func66, Tryz.ntmps66
   go_wp2
   go_loopw [5] (fun i wr => ∃ k : Nat, k ≤ n ∧ i = .int .i64 k ∧ (∀ j, j < k → gR xs j = gR ys j) ∧ ∃ m, wr = w.drewN m) (fun i _ => n - (intOf i).toNat)
   case atStart => exact ⟨0, Nat.zero_le _, rfl, fun j hj => absurd hj (Nat.not_lt_zero _), 0, rfl⟩
   case round =>
    obtain ⟨k, hk, rfl, hall, m, rfl⟩ := hrel
    have HA := Lib.hid hall
    clear hall
    by_cases hlt : k < n
    · obtain ⟨b, off, A1, n1, c1, rfl, hb, hcell, hr⟩ := h.at_ hlt
      obtain ⟨b', off', A2, n2, c2, rfl, hb', hcell', hr'⟩ := h'.at_ hlt
      rcases he : eqB (gR xs k) (gR ys k) with _ | _
      · have HE := Lib.hid (of_decide_eq_false he)
        go_wp2
        go_quiet ((go_at_call 65; exact qA (sameInts_c A1 A2 n1 c1 n2 c2 (gR xs k) (gR ys k) _ (hr.dn _) (hr'.dn _))))
        go_wp2
        go_ret
        exact ⟨boolEnd (decide_eq_false (fun e => HE.out (by rw [e]))).symm, _, World.drewN_drewN ..⟩
      · have HE := Lib.hid (of_decide_eq_true he)
        go_wp2
        go_quiet ((go_at_call 65; exact qA (sameInts_c A1 A2 n1 c1 n2 c2 (gR xs k) (gR ys k) _ (hr.dn _) (hr'.dn _))))
        go_wp2
        go_roundw
        case rel => exact ⟨k + 1, by omega, by go_num, fun j hj => by
         rcases Nat.lt_or_ge j k with h' | h'
         · exact HA.out j h'
         · obtain rfl : j = k := by omega
           exact HE.out, _, rfl⟩
        case measure => simp [intOf]; omega
    · go_wp2
      go_ret
      exact ⟨boolEnd (decide_eq_true (eq_of_gR (by rw [HL.out, HL'.out]) (fun j hj => HA.out j (by have := HL.out; omega)))).symm, _, rfl⟩
 · have hq : ((n : Int) != (n' : Int)) = true := by simp; omega
   go_enter Tryz.func66, Tryz.ntmps66
   go_wp2
   go_ret
   exact ⟨boolEnd (decide_eq_false (fun e => hne (by rw [← HL.out, ← HL'.out, e]))).symm, 0, rfl⟩
end
section
open Go.RowKit
set_option maxRecDepth 100000 in
set_option maxHeartbeats 800000 in
theorem sDeskNew_c (A : Option Addr) (n c : Nat) (xs : List Int) (w : World) (h : Rd w w.heap.size A n c xs) :
    Calls Tryz.prog 94 #[.slice A n c] w (NewOut w xs) := by
 have hr := Two.made w 26 (.slice none 0 0) (.slice none 0 0)
 have hb1 : Below w.heap.size w (w.alloc (.cells #[.slice none 0 0, .slice none 0 0] 26)) := (Below.refl _ _).alloc (Nat.le_refl _) _
 have h1 := h.up hb1
 have hl := h.len
 rcases hm : mapOk xs with _ | _
 · have hpost : NewOut w xs (.returned (.tuple #[.agg #[.slice none 0 0, .slice none 0 0], .bool false])) (w.alloc (.cells #[.slice none 0 0, .slice none 0 0] 26)) :=
    ⟨none, 0, 0, by rw [hm], by rw [hm]; exact OwnIn.nil_ _ _ _, hb1⟩
   have HP := Lib.hid hpost
   have HE := Lib.hid hr
   clear hpost hr
   go_enter Tryz.func94, Tryz.ntmps94
   go_wp2_with (go_at_call 67; refine (sMapOk_c _ _ _ _ _ h1).mono ?_; rintro e w' ⟨rfl, rfl⟩)
   (try simp only [Exit.inBlock, Exit.then])
   refine bodyPost_ret (v := .tuple #[.agg #[.slice none 0 0, .slice none 0 0], .bool false]) ?_ rfl HP.out
   exact Eq.trans (results_two_tmp (p := 2) (u := 3) rfl _ _ w.heap.size _ _ _ rfl HE.out Tryz.underlying26 rfl desk_size) rfl
 · have hbd := mapOk_bounds hm
   have h0 : 0 < n := by omega
   have hn : n ≤ 1000000000000 := by omega
   go_enter Tryz.func94, Tryz.ntmps94
   go_wp2_with fail
   refine (sMapOk_c _ _ _ _ _ h1).mono ?_
   rintro e w' ⟨rfl, rfl⟩
   generalize w.alloc (.cells #[.slice none 0 0, .slice none 0 0] 26) = w1 at *
   have hs1 := hb1.size
   have hb2 : Below w1.heap.size w1 (w1.alloc (.cells #[] 3)) := (Below.refl _ _).alloc (Nat.le_refl _) _
   have hO := OwnV.made w1 w1.heap.size #[] (Nat.le_refl _) rfl
   have hrd := h1.up hb2
   have hs2 := hb2.size
   have hra := hr.up hb2
   go_wp2_with (at_builtin; refine app_row (w1.alloc (.cells #[] 3)) rfl _ _ rfl w1.heap.size _ rfl hO A n c xs rfl hrd h0 hn hs2 ?_; intro v' w2 hown' hb'; obtain ⟨A2, c2, rfl, hown⟩ := hown'.form; have hr2 := hr.below (hb2.trans hb') hr.1; obtain ⟨hg, h20, h21, hf0, hf1⟩ := id hr2)
   have hw := hr.1
   have hO2 := hown.inn
   rw [hl] at hO2
   have hbb := hb2.trans hb'
   have hend := (hr2.set0 (.slice A2 n c2)).set1 (.slice none 0 0)
   have hch : Chg w.heap.size (w.heap.size + 1) w2 ((w2.setCell ⟨w.heap.size, 0, none⟩ (.slice A2 n c2)).setCell ⟨w.heap.size, 1, none⟩ (.slice none 0 0)) :=
    ((Chg.refl _ _ w2).setCell (p := ⟨w.heap.size, 0, none⟩) (Nat.le_refl w.heap.size) (Nat.lt_succ_self w.heap.size) _).setCell (p := ⟨w.heap.size, 1, none⟩) (Nat.le_refl w.heap.size) (Nat.lt_succ_self w.heap.size) _
   have hpost : NewOut w xs (.returned (.tuple #[.agg #[.slice A2 n c2, .slice none 0 0], .bool true])) ((w2.setCell ⟨w.heap.size, 0, none⟩ (.slice A2 n c2)).setCell ⟨w.heap.size, 1, none⟩ (.slice none 0 0)) :=
    ⟨A2, n, c2, by rw [hm], by rw [hm]; exact (hO2.chg hch (.inr (by omega))).wide (by omega) hch.size, (hb1.trans (hbb.mono hs1)).trans (hch.belowLo (Nat.le_refl _) (by have := hbb.size; omega))⟩
   (try simp only [Exit.inBlock, Exit.then])
   refine bodyPost_ret (v := .tuple #[.agg #[.slice A2 n c2, .slice none 0 0], .bool true]) ?_ rfl hpost
   exact Eq.trans (results_two_tmp (p := 2) (u := 3) rfl _ _ w.heap.size _ _ _ rfl hend Tryz.underlying26 rfl desk_size) rfl
set_option maxRecDepth 100000 in
set_option maxHeartbeats 800000 in
theorem sameDesk_c (A P A' P' : Option Addr) (n c m d n' c' m' d' : Nat) (xs xs' : List Int) (yss yss' : List (List Int)) (w : World) (h : RdD w w.heap.size A n c xs P m d yss) (h' : RdD w w.heap.size A' n' c' xs' P' m' d' yss') :
    Calls Tryz.prog 11 #[.agg #[.slice A n c, .slice P m d], .agg #[.slice A' n' c', .slice P' m' d']] w fun e w' => e = .returned (.bool (eqB xs xs' && eqBB yss yss')) ∧ Below w.heap.size w w' := by
 have hb1 : Below w.heap.size w (w.alloc (.cells #[.slice A n c, .slice P m d] 26)) := (Below.refl _ _).alloc (Nat.le_refl _) _
 have hb2 : Below w.heap.size w ((w.alloc (.cells #[.slice A n c, .slice P m d] 26)).alloc (.cells #[.slice A' n' c', .slice P' m' d'] 26)) := hb1.alloc (by simp) _
 have h1 := h.1.up hb2
 have h2 := h.2.up hb2
 have h1' := h'.1.up hb2
 have h2' := h'.2.up hb2
 clear hb1
 go_enter Tryz.func11, Tryz.ntmps11
 go_wp2_with fail
 refine (sameInts_c A A' n c n' c' xs xs' _ h1 h1').mono ?_
 rintro e w' ⟨rfl, k, rfl⟩
 rcases hq : eqB xs xs' with _ | _
 · go_wp2_with fail
   go_ret
   exact ⟨by rw [hq]; rfl, bd hb2 k⟩
 · go_wp2_with fail
   refine (sameRows_c P P' m d m' d' yss yss' _ (h2.dn k) (h2'.dn k)).mono ?_
   rintro e w' ⟨rfl, k2, rfl⟩
   rcases hq2 : eqBB yss yss' with _ | _
   · go_wp2_with fail
     go_ret
     exact ⟨by rw [hq, hq2]; rfl, bd hb2 (k + k2)⟩
   · go_wp2_with fail
     go_ret
     exact ⟨by rw [hq, hq2]; rfl, bd hb2 (k + k2)⟩
set_option maxRecDepth 100000 in
set_option maxHeartbeats 800000 in
theorem noDesk_c (A P : Option Addr) (n c m d : Nat) (xs : List Int) (yss : List (List Int)) (w : World) (h : RdD w w.heap.size A n c xs P m d yss) :
    Calls Tryz.prog 13 #[.agg #[.slice A n c, .slice P m d]] w fun e w' => e = .returned (.bool (eqB xs [] && eqBB yss [])) ∧ Below w.heap.size w w' := by
 have hb1 : Below w.heap.size w (w.alloc (.cells #[.slice A n c, .slice P m d] 26)) := (Below.refl _ _).alloc (Nat.le_refl _) _
 have h1 := h.up hb1
 go_enter Tryz.func13, Tryz.ntmps13
 go_wp2_with fail
 refine (sameDesk_c A P none none n c m d 0 0 0 0 xs [] yss [] _ h1 ⟨Rd.nil_ _ _, RdR.nil_ _ _⟩).mono ?_
 rintro e w' ⟨rfl, hb2⟩
 go_wp2_with fail
 go_ret
 exact ⟨rfl, bt hb1 hb2⟩
end
section
open Go.RowKit
end
section
open Go.RowKit
theorem Two.chg {w w' : World} {g lo hi : Nat} {x y : Value} (h : Two w g x y) (hc : Chg lo hi w w') (hd : g < lo ∨ hi ≤ g) : Two w' g x y :=
 have e := hc.block g h.1 hd
 ⟨Nat.lt_of_lt_of_le h.1 hc.size, (World.cell?_of_block (w := w) (a := ⟨g, 0, none⟩) e).trans h.2.1, (World.cell?_of_block (w := w) (a := ⟨g, 1, none⟩) e).trans h.2.2.1, (World.frozen?_of_block (w := w) (a := ⟨g, 0, none⟩) e).trans h.2.2.2.1, (World.frozen?_of_block (w := w) (a := ⟨g, 1, none⟩) e).trans h.2.2.2.2⟩
theorem Two.dn {w : World} {g : Nat} {x y : Value} (h : Two w g x y) (m : Nat) : Two (w.drewN m) g x y := h
def newR (xs : List Int) : List Int := if mapOk xs then xs else []
theorem newR_len (xs : List Int) : (newR xs).length ≤ 7 := by
 unfold newR; split
 · rename_i h; exact (mapOk_bounds h).2
 · simp
theorem NewOut.get {w w' : World} {xs : List Int} {e : Ending} (h : NewOut w xs e w') : ∃ A n c, e = .returned (.tuple #[.agg #[.slice A n c, .slice none 0 0], .bool (mapOk xs)]) ∧ OwnIn w' w.heap.size w'.heap.size A n c (newR xs) ∧ Below w.heap.size w w' := h
end
end Go.Proofs.YtoinlkdmfclnbaaGreatDoor
