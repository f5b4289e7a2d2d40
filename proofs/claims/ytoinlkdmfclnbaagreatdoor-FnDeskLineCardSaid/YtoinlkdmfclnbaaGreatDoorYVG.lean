/- Bundle VG. -/
import Derived.Laws.StructEq
import Derived.Test.YtoinlkdmfclnbaaGreatDoorYV14
import Derived.Test.YtoinlkdmfclnbaaGreatDoorYV16
import Derived.Test.YtoinlkdmfclnbaaGreatDoorYV18
import Derived.Test.YtoinlkdmfclnbaaGreatDoorYV4
import Derived.Test.YtoinlkdmfclnbaaGreatDoorYVF
namespace Go.Proofs.YtoinlkdmfclnbaaGreatDoor
set_option linter.unusedVariables false
section
open Go.RowKit
end
section
open Go.RowKit
end
section
open Go.RowKit
theorem rdV_w {l : List UInt8} {kd a b : Int} {x : List UInt8} (h0 : l ≠ []) (h : rdW l = some (kd, a, b, x)) :
    (dtL kd a b x = l → rdV l = ((kd, a, b, x), true)) ∧ (¬ dtL kd a b x = l → rdV l = ((0, 0, 0, []), false)) := by
 unfold rdV
 rw [h]
 exact ⟨fun h1 => if_pos ⟨h0, h1⟩, fun h1 => if_neg (fun h2 => h1 h2.2)⟩
theorem rdV_wn {l : List UInt8} (h : rdW l = none) : rdV l = ((0, 0, 0, []), false) := by unfold rdV; rw [h]
theorem readDeed_c (s : ByteArray) (w : World) (hsz : s.size ≤ 2000000) (hg : Glo w) :
    Calls Tryz.prog 41 #[.string s] w (RdOut (rdV s.data.toList) w) := by
 obtain ⟨u, v, b, hc, hlen⟩ := cutX s.data.toList
 have hll : s.data.toList.length = s.size := by rw [Array.length_toList]; rfl
 have hv : v.length ≤ 2000000 := by omega
 have hne : ∀ {c : UInt8} {r : List UInt8}, u = c :: r → s.data.toList ≠ [] := fun hu h0 => by
  rw [h0] at hc
  have := congrArg Prod.fst hc
  rw [hu] at this
  cases this
 have hW : rdW s.data.toList = (if u = wLead then (if v.length = 3 then (some (0, ((v.getD 0 0).toNat : Int) - 48, ((v.getD 2 0).toNat : Int) - 48, []) : Option (Int × Int × Int × List UInt8)) else none)
     else if u = wBehind then some (1, 0, 0, v)
     else if u = wPower then (match Lib.atoiAll v with | .ok n => some (2, n, 0, []) | _ => none)
     else if u = wName then some (3, 0, 0, v)
     else if u = wBack then some (4, 0, 0, [])
     else none) := by
  unfold rdW
  rw [hc]
  simp only
  split
  · rfl
  · split
    · rfl
    · split
      · cases Lib.atoiAll v <;> rfl
      · rfl
 by_cases h1 : u = wLead
 · have h0 := hne h1
   rw [if_pos h1] at hW
   subst h1
   by_cases h3 : v.length = 3
   · rw [if_pos h3] at hW
     match v, h3 with
     | [x, y, z], _ =>
      have hr := rdV_w h0 hW
      exact rdd_lead s w hsz hg x y z b hc _ _ rfl rfl _ hr.1 hr.2
   · rw [if_neg h3] at hW
     rw [rdV_wn hW]
     exact rdd_leadN s w hsz hg v b hv h3 hc
 rw [if_neg h1] at hW
 by_cases h2 : u = wBehind
 · have h0 := hne h2
   rw [if_pos h2] at hW
   subst h2
   have hr := rdV_w h0 hW
   exact rdd_behind s w hsz hg v b hv hc _ hr.1 hr.2
 rw [if_neg h2] at hW
 by_cases h3 : u = wPower
 · have h0 := hne h3
   rw [if_pos h3] at hW
   subst h3
   by_cases hn : ∃ n, Lib.atoiAll v = .ok n
   · obtain ⟨n, hn⟩ := hn
     rw [hn] at hW
     have hr := rdV_w h0 hW
     exact rdd_power s w hsz hg v b n hv hn hc _ hr.1 hr.2
   · have hn' : ∀ n, Lib.atoiAll v ≠ .ok n := fun n h => hn ⟨n, h⟩
     have hW2 : rdW s.data.toList = none := by
      rw [hW]
      split
      · rename_i n h
        exact absurd h (hn' n)
      · rfl
     rw [rdV_wn hW2]
     exact rdd_powerN s w hsz hg v b hv hn' hc
 rw [if_neg h3] at hW
 by_cases h4 : u = wName
 · have h0 := hne h4
   rw [if_pos h4] at hW
   subst h4
   have hr := rdV_w h0 hW
   exact rdd_name s w hsz hg v b hv hc _ hr.1 hr.2
 rw [if_neg h4] at hW
 by_cases h5 : u = wBack
 · have h0 := hne h5
   rw [if_pos h5] at hW
   subst h5
   have hr := rdV_w h0 hW
   exact rdd_back s w hsz hg v b hc _ hr.1 hr.2
 rw [if_neg h5] at hW
 rw [rdV_wn hW]
 exact rdd_other s w hsz hg u v b hc h1 h2 h3 h4 h5
end
section
open Go.RowKit
end
section
open Go.RowKit
end
section
open Go.RowKit
theorem rdV_cases (l : List UInt8) : (∃ kd a b x, rdV l = ((kd, a, b, x), true) ∧ dtL kd a b x = l ∧ l ≠ []) ∨ rdV l = ((0, 0, 0, []), false) := by
 cases h : (rdV l).2 with
 | true =>
  obtain ⟨h0, h1⟩ := rdV_text h
  generalize hr : rdV l = r at *
  obtain ⟨⟨kd, a, b, x⟩, ok⟩ := r
  simp only at h
  subst h
  exact .inl ⟨kd, a, b, x, rfl, h1, h0⟩
 | false =>
  right
  unfold rdV at h ⊢
  cases hw : rdW l with
  | none => rfl
  | some d =>
   obtain ⟨kd, a, b, x⟩ := d
   rw [hw] at h
   simp only at h ⊢
   split at h
   · cases h
   · rename_i h1
     rw [if_neg h1]
end
section
open Go.RowKit
def LineO (w : World) (r1 : List Int) (r2 : List (List Int)) (t : ByteArray) (e : Ending) (w' : World) : Prop :=
 ∃ A n c P m d, e = .returned (.tuple #[.agg #[.slice A n c, .slice P m d], .string t]) ∧ OwnD w' w.heap.size w'.heap.size A n c r1 P m d r2 ∧ Below w.heap.size w w'
def okT (b : Bool) : ByteArray := if b then ⟨#[111, 107]⟩ else ⟨#[110, 111, 116]⟩
theorem line_end {w wr : World} {lo hi n c m d : Nat} {A P : Option Addr} {r1 : List Int} {r2 : List (List Int)} (t : ByteArray) (hR : Two wr (w.heap.size + 1) (.slice none 0 0) (.slice none 0 0)) (hO : OwnD wr lo hi A n c r1 P m d r2) (hlo : w.heap.size + 2 ≤ lo) (hhi : hi ≤ wr.heap.size) (hB : Below w.heap.size w wr) :
    LineO w r1 r2 t (.returned (.tuple #[.agg #[.slice A n c, .slice P m d], .string t])) ((wr.setCell ⟨w.heap.size + 1, 0, none⟩ (.slice A n c)).setCell ⟨w.heap.size + 1, 1, none⟩ (.slice P m d)) ∧
    Two ((wr.setCell ⟨w.heap.size + 1, 0, none⟩ (.slice A n c)).setCell ⟨w.heap.size + 1, 1, none⟩ (.slice P m d)) (w.heap.size + 1) (.slice A n c) (.slice P m d) := by
 have hch : Chg (w.heap.size + 1) (w.heap.size + 2) wr ((wr.setCell ⟨w.heap.size + 1, 0, none⟩ (.slice A n c)).setCell ⟨w.heap.size + 1, 1, none⟩ (.slice P m d)) :=
  ((Chg.refl _ _ wr).setCell (p := ⟨w.heap.size + 1, 0, none⟩) (by simp) (by simp) _).setCell (p := ⟨w.heap.size + 1, 1, none⟩) (by simp) (by simp) _
 have hz := hB.size
 have hzr := hR.1
 exact ⟨⟨A, n, c, P, m, d, rfl, (hO.chg hch (.inr (by omega))).wide (by omega) (by have := hch.size; omega), hB.trans (hch.belowLo (B := w.heap.size) (by omega) (by omega))⟩, (hR.set0 _).set1 _⟩
theorem dt_x {l : List UInt8} {kd a b : Int} {x : List UInt8} (h : rdV l = ((kd, a, b, x), true)) : x.length ≤ 20 := by
 have h1 : dtL kd a b x ≠ [] := by
  have := rdV_text (l := l) (by rw [h])
  rw [h] at this
  intro e
  have h2 : dtL kd a b x = l := this.2
  rw [e] at h2
  exact this.1 h2.symm
 have h9 := dt_of (kd := kd) (a := a) (b := b) (l := x) h1
 generalize dtL kd a b x = t9 at h9
 cases h9 with
 | back => decide
 | lead i j hi hj => decide
 | behind l h => have := tx_len h; omega
 | name l h => have := tx_len h; omega
 | power n h => decide
set_option maxRecDepth 100000 in
set_option maxHeartbeats 3200000 in
theorem deskLine_deed (A P : Option Addr) (n c m d : Nat) (xs : List Int) (yss : List (List Int)) (s : ByteArray) (kd a b : Int) (x : List UInt8) (w : World) (h : RdD w w.heap.size A n c xs P m d yss) (hok : deskOkB xs yss = true) (hg : Glo w) (hs : s.size ≤ 2000000) (hr : rdV s.data.toList = ((kd, a, b, x), true)) :
    Calls Tryz.prog 9 #[.agg #[.slice A n c, .slice P m d], .string s] w (LineO w (doX xs yss kd a b (bl x)).1 (doX xs yss kd a b (bl x)).2.1 (okT (doX xs yss kd a b (bl x)).2.2)) := by
 have hx := dt_x hr
 have hW : Below w.heap.size w ((w.alloc (.cells #[.slice A n c, .slice P m d] 26)).alloc (.cells #[.slice none 0 0, .slice none 0 0] 26)) := ((Below.refl _ _).alloc (Nat.le_refl _) _).alloc (by simp) _
 have h1 := h.up hW
 have hr1 := Two.made (w.alloc (.cells #[.slice A n c, .slice P m d] 26)) 26 (.slice none 0 0) (.slice none 0 0)
 have ha := (Two.made w 26 (.slice A n c) (.slice P m d)).alloc (.cells #[.slice none 0 0, .slice none 0 0] 26)
 simp only [World.size_alloc] at hr1
 have K1 := deskOk_c A P n c m d xs yss _ h1
 rw [hok] at K1
 have KD := fun W (h : RdD W W.heap.size A n c xs P m d yss) => deskDo_c A P n c m d xs yss kd a b (bl x) W h (by rw [bl_size]; omega)
 generalize doX xs yss kd a b (bl x) = R at *
 obtain ⟨r1, r2, r3⟩ := R
 go_enter Tryz.func9, Tryz.ntmps9
 go_wp2_with fail
 generalize ((w.alloc (.cells #[.slice A n c, .slice P m d] 26)).alloc (.cells #[.slice none 0 0, .slice none 0 0] 26)) = w1 at *
 refine K1.mono ?_
 rintro e w2 ⟨rfl, hb2⟩
 have h2 := h1.up hb2
 have hr2 := hr1.up hb2
 have ha2 := ha.up hb2
 have hB2 := bt hW hb2
 have hg2 := hg.up hB2
 have K3 := readDeed_c s w2 hs hg2
 rw [hr] at K3
 unfold RdOut at K3
 simp only at K3
 clear K1 h1 hr1 ha hW hb2 hg2
 go_wp2_with fail
 refine K3.mono ?_
 rintro e w3 ⟨rfl, hb3⟩
 have hbA := below_new w3 (.cells #[.int .i64 kd, .int .i64 a, .int .i64 b, .string (bl x)] 55)
 have hF4 := Four.made w3 55 kd a b (bl x)
 have h4 := (h2.up hb3).up hbA
 have hr4 := (hr2.up hb3).up hbA
 have ha4 := (ha2.up hb3).up hbA
 have hB4 := bt (bt hB2 hb3) hbA
 clear K3 h2 hr2 ha2 hB2 hb3 hbA
 obtain ⟨_, a0, a1, _, _⟩ := id ha4
 obtain ⟨_, f0, f1, f2, f3⟩ := id hF4
 go_wp2_with fail
 generalize w3.alloc (.cells #[.int .i64 kd, .int .i64 a, .int .i64 b, .string (bl x)] 55) = w4 at *
 clear a0 a1 f0 f1 f2 f3
 refine (KD _ h4).mono ?_
 rintro e w5 ⟨A5, n5, c5, P5, m5, d5, rfl, hO5, hb5⟩
 have hbA := below_new w5 (.cells #[.slice A5 n5 c5, .slice P5 m5 d5] 26)
 have hT6 := Two.made w5 26 (.slice A5 n5 c5) (.slice P5 m5 d5)
 have hO6 := hO5.up hbA
 have hz5 := hb5.size
 have hz6 := hbA.size
 have hr6 := (hr4.up hb5).up hbA
 have hB6 := bt (bt hB4 hb5) hbA
 have hlo : w.heap.size + 2 ≤ w4.heap.size := hr4.1
 simp only at hO6
 clear KD h4 hr4 ha4 hB4 hF4 hb5 hbA hO5
 obtain ⟨_, t0, t1, t2, t3⟩ := id hT6
 obtain ⟨_, s0, s1, s2, s3⟩ := id hr6
 rcases r3 with _ | _
 · obtain ⟨HE, HT⟩ := line_end (w := w) (okT false) hr6 hO6 hlo (by omega) hB6
   have HE := Lib.hid HE
   have HT := Lib.hid HT
   clear hr6 hO6 hB6 hT6
   go_wp2_with fail
   (try simp only [Exit.inBlock, Exit.then])
   refine bodyPost_ret (v := .tuple #[.agg #[.slice A5 n5 c5, .slice P5 m5 d5], .string (okT false)]) ?_ rfl HE.out
   exact Eq.trans (results_two_tmp (p := 4) (u := 5) rfl _ _ (w.heap.size + 1) _ _ _ rfl HT.out Tryz.underlying26 rfl desk_size) rfl
 · obtain ⟨HE, HT⟩ := line_end (w := w) (okT true) hr6 hO6 hlo (by omega) hB6
   have HE := Lib.hid HE
   have HT := Lib.hid HT
   clear hr6 hO6 hB6 hT6
   go_wp2_with fail
   (try simp only [Exit.inBlock, Exit.then])
   refine bodyPost_ret (v := .tuple #[.agg #[.slice A5 n5 c5, .slice P5 m5 d5], .string (okT true)]) ?_ rfl HE.out
   exact Eq.trans (results_two_tmp (p := 4) (u := 5) rfl _ _ (w.heap.size + 1) _ _ _ rfl HT.out Tryz.underlying26 rfl desk_size) rfl
end
end Go.Proofs.YtoinlkdmfclnbaaGreatDoor
