/- Words for rows of rows of numbers, and walks over them: eqIntSS, szIntS, szIntSS, toIntSS (laws). -/
import Derived.Test.YtpbpkdkjjbhjoaaW5
import Derived.Test.YtpbpkdkjjbhjoaaApp
namespace Go.Proofs.Ytpbpkdkjjbhjoaa
set_option linter.unusedVariables false
open Go.RowKit

def gR (xss : List (List Int)) (k : Nat) : List Int := xss.getD k []
theorem gR_get {xss : List (List Int)} {k : Nat} (hk : k < xss.length) : gR xss k = xss[k] := by simp [gR, List.getD, List.getElem?_eq_getElem hk]
theorem eq_of_gR {xss yss : List (List Int)} (hl : xss.length = yss.length) (h : ∀ k, k < xss.length → gR xss k = gR yss k) : xss = yss := by
  apply List.ext_getElem hl
  intro k h1 h2
  have := h k h1
  rwa [gR_get h1, gR_get h2] at this
/-- The slice value '.slice A n c' reads as the rows xss, below block B. -/
def RdR (w : World) (B : Nat) (A : Option Addr) (n c : Nat) (xss : List (List Int)) : Prop :=
  xss.length = n ∧ n ≤ c ∧ c ≤ maxLen ∧ (0 < n → ∃ b off, A = some ⟨b, off, none⟩ ∧ b < B ∧ ∀ k, k < n → ∃ A' n' c', w.cell? ⟨b, off + k, none⟩ = some (.slice A' n' c') ∧ Rd w B A' n' c' (gR xss k))
section
variable {w w' : World} {B B' n c : Nat} {A : Option Addr} {xss : List (List Int)}
theorem RdR.len (h : RdR w B A n c xss) : xss.length = n := h.1
theorem RdR.cap (h : RdR w B A n c xss) : n ≤ c := h.2.1
theorem RdR.max (h : RdR w B A n c xss) : c ≤ maxLen := h.2.2.1
theorem RdR.at_ (h : RdR w B A n c xss) {k : Nat} (hk : k < n) : ∃ b off A' n' c', A = some ⟨b, off, none⟩ ∧ b < B ∧ w.cell? ⟨b, off + k, none⟩ = some (.slice A' n' c') ∧ Rd w B A' n' c' (gR xss k) := by
  obtain ⟨b, off, e, hb, hc⟩ := h.2.2.2 (by omega)
  obtain ⟨A', n', c', h1, h2⟩ := hc k hk
  exact ⟨b, off, A', n', c', e, hb, h1, h2⟩
theorem RdR.nil_ (w : World) (B : Nat) : RdR w B none 0 0 [] := ⟨rfl, Nat.le_refl _, Nat.zero_le _, fun h => absurd h (by omega)⟩
theorem RdR.keep (h : RdR w B A n c xss) (hk : ∀ p : Addr, p.block < B → w'.cell? p = w.cell? p) : RdR w' B A n c xss :=
  ⟨h.1, h.2.1, h.2.2.1, fun hn => by
    obtain ⟨b, off, e, hb, hc⟩ := h.2.2.2 hn
    refine ⟨b, off, e, hb, fun k hk' => ?_⟩
    obtain ⟨A', n', c', h1, h2⟩ := hc k hk'
    exact ⟨A', n', c', (hk _ hb).trans h1, h2.keep hk⟩⟩
theorem RdR.more (h : RdR w B A n c xss) (hB : B ≤ B') : RdR w B' A n c xss :=
  ⟨h.1, h.2.1, h.2.2.1, fun hn => by
    obtain ⟨b, off, e, hb, hc⟩ := h.2.2.2 hn
    refine ⟨b, off, e, by omega, fun k hk' => ?_⟩
    obtain ⟨A', n', c', h1, h2⟩ := hc k hk'
    exact ⟨A', n', c', h1, h2.more hB⟩⟩
theorem RdR.below (h : RdR w B A n c xss) (hb : Below B w w') : RdR w' B A n c xss := h.keep fun _ hp => hb.cell hp
theorem RdR.up (h : RdR w w.heap.size A n c xss) (hb : Below w.heap.size w w') : RdR w' w'.heap.size A n c xss := (h.below hb).more hb.size
theorem RdR.dn (h : RdR w w.heap.size A n c xss) (m : Nat) : RdR (w.drewN m) (w.drewN m).heap.size A n c xss := h.keep fun _ _ => rfl
end

/-- A callee that draws, met in a quiet region. -/
theorem qQ {P : Program} {f : FuncId} {args : Array Value} {w : World} {n : Nat} {v : Value}
    (h : Calls P f args (w.drewN n) fun e w' => e = .returned v ∧ ∃ m, w' = (w.drewN n).drewN m) : Calls P f args (w.drewN n) fun e w'' => e = .returned v ∧ ∃ m, w'' = w.drewN m :=
  h.mono fun _ _ ⟨he, m, hm⟩ => ⟨he, _, hm.trans (World.drewN_drewN ..)⟩
theorem qA {P : Program} {f : FuncId} {args : Array Value} {w : World} {a n : Nat} {v : Value}
    (h : Calls P f args (w.drewN (a + n)) fun e w' => e = .returned v ∧ ∃ m, w' = (w.drewN (a + n)).drewN m) : Calls P f args (w.drewN (a + n)) fun e w'' => e = .returned v ∧ ∃ m, w'' = w.drewN (a + m) :=
  h.mono fun _ _ ⟨he, m, hm⟩ => ⟨he, n + m, by rw [hm, World.drewN_drewN, Nat.add_assoc]⟩
def eqBB (xss yss : List (List Int)) : Bool := decide (xss = yss)
set_option maxRecDepth 100000 in
set_option maxHeartbeats 800000 in
theorem eqIntSS_c (A A' : Option Addr) (n c n' c' : Nat) (xs ys : List (List Int)) (w : World) (h : RdR w w.heap.size A n c xs) (h' : RdR w w.heap.size A' n' c' ys) :
    Calls Try.prog 72 #[.slice A n c, .slice A' n' c'] w fun e w' => e = .returned (.bool (eqBB xs ys)) ∧ ∃ m, w' = w.drewN m := by
  have HL := Lib.hid h.len
  have HL' := Lib.hid h'.len
  have hm := h.max
  have hc := h.cap
  have hm' := h'.max
  have hc' := h'.cap
  unfold maxLen at hm hm'
  by_cases hne : n = n'
  · subst hne
    go_enter Try.func72, Try.ntmps72
    go_wp2
    go_loopw [5] (fun i wr => ∃ k : Nat, k ≤ n ∧ i = .int .i64 k ∧ (∀ j, j < k → gR xs j = gR ys j) ∧ ∃ m, wr = w.drewN m) (fun i _ => n - (intOf i).toNat)
    case atStart => exact ⟨0, Nat.zero_le _, rfl, fun j hj => absurd hj (Nat.not_lt_zero _), 0, rfl⟩
    case round =>
      obtain ⟨k, hk, rfl, hall, m, rfl⟩ := hrel
      have HA := Lib.hid hall
      clear hall
      by_cases hlt : k < n
      · obtain ⟨b, off, A1, n1, c1, rfl, hb, hcell, hr⟩ := h.at_ hlt
        obtain ⟨b', off', A2, n2, c2, rfl, hb', hcell', hr'⟩ := h'.at_ hlt
        rcases he : eqB (gR xs k) (gR ys k) with _ | _
        · have HE := Lib.hid (of_decide_eq_false he)
          go_wp2
          go_quiet ((go_at_call 23; exact qA (eqIntS_c A1 A2 n1 c1 n2 c2 (gR xs k) (gR ys k) _ (hr.dn _) (hr'.dn _))))
          go_wp2
          go_ret
          exact ⟨boolEnd (decide_eq_false (fun e => HE.out (by rw [e]))).symm, _, World.drewN_drewN ..⟩
        · have HE := Lib.hid (of_decide_eq_true he)
          go_wp2
          go_quiet ((go_at_call 23; exact qA (eqIntS_c A1 A2 n1 c1 n2 c2 (gR xs k) (gR ys k) _ (hr.dn _) (hr'.dn _))))
          go_wp2
          go_roundw
          case rel => exact ⟨k + 1, by omega, by go_num, fun j hj => by
            rcases Nat.lt_or_ge j k with h' | h'
            · exact HA.out j h'
            · obtain rfl : j = k := by omega
              exact HE.out, _, rfl⟩
          case measure => simp [intOf]; omega
      · go_wp2
        go_ret
        exact ⟨boolEnd (decide_eq_true (eq_of_gR (by rw [HL.out, HL'.out]) (fun j hj => HA.out j (by have := HL.out; omega)))).symm, _, rfl⟩
  · have hq : ((n : Int) != (n' : Int)) = true := by simp; omega
    go_enter Try.func72, Try.ntmps72
    go_wp2
    go_ret
    exact ⟨boolEnd (decide_eq_false (fun e => hne (by rw [← HL.out, ← HL'.out, e]))).symm, 0, rfl⟩

/-! ### sizes -/
def SzS (n : Nat) (left : Int) (w : World) (e : Ending) (w' : World) : Prop :=
  ∃ r : Int, e = .returned (.int .i64 r) ∧ w = w' ∧ -1 ≤ r ∧ r ≤ left ∧ (0 ≤ r → (n : Int) ≤ left)
set_option maxHeartbeats 400000 in
theorem szIntS_c (A : Option Addr) (n c : Nat) (xs : List Int) (left : Int) (w : World) (h : Rd w w.heap.size A n c xs) (h0 : 0 ≤ left) (h1 : left ≤ 1048576) :
    Calls Try.prog 69 #[.slice A n c, .int .i64 left] w (SzS n left w) := by
  have hm := h.max
  have hc := h.cap
  unfold maxLen at hm
  by_cases hn : (n : Int) ≤ left
  · go_enter Try.func69, Try.ntmps69
    go_wp2
    go_ret
    exact ⟨_, rfl, rfl, by omega, by omega, fun _ => hn⟩
  · go_enter Try.func69, Try.ntmps69
    go_wp2
    go_ret
    exact ⟨_, rfl, rfl, by omega, by omega, fun h => by omega⟩
def SzSS (xss : List (List Int)) (left : Int) (w : World) (e : Ending) (w' : World) : Prop :=
  ∃ r : Int, e = .returned (.int .i64 r) ∧ w = w' ∧ -1 ≤ r ∧ r ≤ left ∧ (0 ≤ r → (xss.length : Int) ≤ left ∧ ∀ k, k < xss.length → ((gR xss k).length : Int) ≤ left)
set_option maxRecDepth 100000 in
set_option maxHeartbeats 800000 in
theorem szIntSS_c (A : Option Addr) (n c : Nat) (xs : List (List Int)) (left : Int) (w : World) (h : RdR w w.heap.size A n c xs) (h0 : 0 ≤ left) (h1 : left ≤ 1048576) :
    Calls Try.prog 70 #[.slice A n c, .int .i64 left] w (SzSS xs left w) := by
  have HL := Lib.hid h.len
  have hm := h.max
  have hc := h.cap
  unfold maxLen at hm
  by_cases hn : (n : Int) ≤ left
  · go_enter Try.func70, Try.ntmps70
    go_wp2
    go_loopw [1, 5] (fun l i wr => ∃ (k : Nat) (r : Int), k ≤ n ∧ i = .int .i64 k ∧ l = .int .i64 r ∧ 0 ≤ r ∧ r ≤ left ∧ (∀ j, j < k → ((gR xs j).length : Int) ≤ left) ∧ wr = w) (fun _ i _ => n - (intOf i).toNat)
    case atStart => exact ⟨0, _, Nat.zero_le _, rfl, rfl, by omega, by omega, fun j hj => absurd hj (Nat.not_lt_zero _), rfl⟩
    case round =>
      obtain ⟨k, r, hk, rfl, rfl, hr0, hr1, hall, rfl⟩ := hrel
      have HA := Lib.hid hall
      clear hall
      by_cases hlt : k < n
      · obtain ⟨b, off, A1, n1, c1, rfl, hb, hcell, hr⟩ := h.at_ hlt
        have hl1 := hr.len
        go_wp2_with fail
        refine (szIntS_c A1 n1 c1 _ r _ hr hr0 (by omega)).mono ?_
        rintro e w' ⟨r2, rfl, rfl, hr2, hr3, hr4⟩
        by_cases hneg : r2 < 0
        · go_wp2_with fail
          go_ret
          exact ⟨_, rfl, rfl, by omega, by omega, fun h => by omega⟩
        · go_wp2_with fail
          go_roundw
          case rel => exact ⟨k + 1, r2, by omega, by go_num, rfl, by omega, by omega, fun j hj => by
            rcases Nat.lt_or_ge j k with h' | h'
            · exact HA.out j h'
            · obtain rfl : j = k := by omega
              have := hr4 (by omega)
              omega, trivial⟩
          case measure => simp [intOf]; omega
      · go_wp2
        go_ret
        exact ⟨_, rfl, rfl, by omega, by omega, fun _ => ⟨by rw [HL.out]; exact hn, fun j hj => HA.out j (by have := HL.out; omega)⟩⟩
  · go_enter Try.func70, Try.ntmps70
    go_wp2
    go_ret
    exact ⟨_, rfl, rfl, by omega, by omega, fun h => by omega⟩
end Go.Proofs.Ytpbpkdkjjbhjoaa
