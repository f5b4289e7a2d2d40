/- Walks: thingOk, walked, WayFrom (impl). -/
import Derived.Test.YtlbiioncpeondaaW7
import Derived.ScopeJumps
namespace Go.Proofs.Ytlbiioncpeondaa
set_option linter.unusedVariables false
open Go.RowKit

theorem thingOk_c (A : Option Addr) (n c : Nat) (xs : List Int) (t : Int) (w : World) (h : Rd w w.heap.size A n c xs) :
    Calls Try.prog 89 #[.slice A n c, .int .i64 t] w fun e w' => e = .returned (.bool (atOk xs t)) ∧ w = w' := by
  have hl := h.len
  rcases hm : mapOk xs with _ | _
  · have HE : Hid (atOk xs t = false) := by unfold Hid atOk; rw [hm]; rfl
    go_enter Try.func89, Try.ntmps89
    go_wp2_with (go_at_call 61; refine (mapOk_c _ _ _ _ _ h).mono ?_; rintro e w' ⟨rfl, rfl⟩)
    go_ret
    exact ⟨boolEnd HE.out.symm, rfl⟩
  · have HE : Hid (atOk xs t = hasB n t) := by unfold Hid atOk; rw [hm, hl]; rfl
    go_enter Try.func89, Try.ntmps89
    go_wp2_with (first
      | (go_at_call 61; refine (mapOk_c _ _ _ _ _ h).mono ?_; rintro e w' ⟨rfl, rfl⟩)
      | (go_at_call 72; refine (has_c _ _ _ _ _).mono ?_; rintro e w' ⟨rfl, rfl⟩))
    go_ret
    exact ⟨boolEnd HE.out.symm, rfl⟩

set_option maxRecDepth 100000 in
set_option maxHeartbeats 1600000 in
theorem walked_ok (A : Option Addr) (c : Nat) (f : List Nat) (k : Nat) (w : World) (h : Rd w w.heap.size A f.length c (ints f)) (hf : MapN f) (hk : k < f.length) :
    Calls Try.prog 90 #[.slice A f.length c, .int .i64 k] w fun e w' => ∃ v, e = .returned (.tuple #[v, .int .i64 ((it f (wl f k) k : Nat) : Int)]) ∧ OwnV w' w.heap.size v (ints (way f k)) ∧ Below w.heap.size w w' := by
  have h7 := hf.le7
  have hcap := h.cap
  have hmax := h.max
  unfold maxLen at hmax
  have hfp := hf.pos
  obtain ⟨b, off, rfl, hbb, hcells⟩ := h.2.2.2 (by omega)
  have HC := Lib.hid hcells
  clear hcells
  go_enter Try.func90, Try.ntmps90
  go_wp2_with fail
  refine wp_scope_jumps 0 (fun (a' : Act) (w' : World) => ∃ (i : Nat) (v : Value) (u10 u11 u12 u13 u14 u15 u16 u17 u18 u19 u20 u21 u22 u23 u24 u25 u26 : Value), a' = ⟨#[.slice (some ⟨b, off, none⟩) f.length c, .int .i64 (k : Int), undef, undef, .slice none 0 0, .int .i64 0, v, .int .i64 ((seenK f k i : Nat) : Int), .int .i64 ((it f i k : Nat) : Int), .int .i64 (k : Int), u10, u11, u12, u13, u14, u15, u16, u17, u18, u19, u20, u21, u22, u23, u24, u25, u26, undef, undef], []⟩ ∧ OwnV w' w.heap.size v (ints (orb f k i)) ∧ (orb f k i).Nodup ∧ it f i k ∉ orb f k i ∧ Below w.heap.size w w') (fun a' _ => 128 - (intOf (a'.tmps.getD 7 undef)).toNat) rfl ?_ ?_
  · go_wp2_with fail
    go_step3
    have hown : OwnV w w.heap.size (.slice none 0 0) (ints (orb f k 0)) := OwnV.nil_ _ _
    have hnd : (orb f k 0).Nodup := by simp [orb]
    have hbw := Below.refl w.heap.size w
    obtain ⟨s, hs⟩ : ∃ s, seenK f k 0 = s := ⟨_, rfl⟩
    obtain ⟨t, ht⟩ : ∃ t, it f 0 k = t := ⟨_, rfl⟩
    have hno : t ∉ orb f k 0 := by simp [orb]
    change Exit.then _ _ Exit.normal (⟨#[.slice (some ⟨b, off, none⟩) f.length c, .int .i64 (k : Int), undef, undef, .slice none 0 0, .int .i64 0, .slice none 0 0, .int .i64 ((seenK f k 0 : Nat) : Int), .int .i64 ((it f 0 k : Nat) : Int), .int .i64 (k : Int), undef, undef, undef, undef, undef, undef, undef, undef, undef, undef, undef, undef, undef, undef, undef, undef, undef, undef, undef], []⟩ : Act) _
    rw [hs, ht]
    have htl : t < f.length := by rw [← ht]; exact it_lt hf hk 0
    have hs7 : s < 128 := by have := seenK_lt hf hk 0; have := (two_le h7).2; rw [← hs]; omega
    have h2 := two_le (k := t) (by omega)
    have hi1 : (1 : Int) ≤ 2 ^ t := by rw [castPow]; omega
    have hi2 : (2 : Int) ^ t ≤ 128 := by rw [castPow]; omega
    obtain ⟨s', hs'⟩ : ∃ s', s' = s ||| 2 ^ t := ⟨_, rfl⟩
    obtain ⟨t', ht'⟩ : ∃ t', t' = nx f t := ⟨_, rfl⟩
    have hor : bits .or .i64 (s : Int) (2 ^ t) = (s' : Int) := by rw [castPow, hs']; exact bits_or _ _ (by omega) (by omega)
    have hcell1 : w.cell? ⟨b, off + t, none⟩ = some (.int .i64 (t' : Int)) := by rw [HC.out t htl, gI_ints, ht']
    have hs1 : seenK f k (0 + 1) = s' := by rw [seenK, hs, ht, hs']
    have ht1 : it f (0 + 1) k = t' := by rw [it_succ, ht, ht']
    have hs7' : s' < 128 := by have := seenK_lt hf hk (0 + 1); have := (two_le h7).2; rw [← hs1]; omega
    have htl' : t' < f.length := by rw [← ht1]; exact it_lt hf hk _
    have h2' := two_le (k := t') (by omega)
    have hi1' : (1 : Int) ≤ 2 ^ t' := by rw [castPow]; omega
    have hi2' : (2 : Int) ^ t' ≤ 128 := by rw [castPow]; omega
    have hnd' := orb_nodup_succ hnd (by rw [ht]; exact hno)
    have hle := orb_le hf hk hnd'
    have hlen : (ints (orb f k 0)).length ≤ 1000000000000 := by rw [ints_len, orb_len]; omega
    obtain ⟨q, hq⟩ : ∃ q, q = s' &&& 2 ^ t' := ⟨_, rfl⟩
    have hand : bits .and .i64 (s' : Int) (2 ^ t') = (q : Int) := by rw [castPow, hq]; exact bits_and _ _ (by omega) (by omega)
    have htb : (q != 0) = s'.testBit t' := by rw [hq]; exact and_two_ne _ _
    have hmem : s'.testBit t' = true ↔ it f (0 + 1) k ∈ orb f k (0 + 1) := by rw [← hs1, ← ht1]; exact seenK_bit f k _ _
    have hbs := hbw.size
    have ND := Lib.hid hnd'
    have ME := Lib.hid hmem
    have SS := Lib.hid hs1
    have TT := Lib.hid ht1
    have HB := Lib.hid hbw
    have GR : Hid (seenK f k 0 < seenK f k (0 + 1)) := seenK_grow (by rw [ht]; exact hno)
    have HS := Lib.hid hs
    have TT0 : it f 0 k = t := ht
    clear h2 h2' hs' ht' hq hnd' hmem hs1 ht1 hno hnd hs ht
    rcases hbt : s'.testBit t' with _ | _
    · have hz : ((q : Int) == 0) = true := by rw [hbt] at htb; simp at htb; simp [htb]
      have NO : Hid (it f (0 + 1) k ∉ orb f k (0 + 1)) := fun hm => by rw [ME.out.2 hm] at hbt; cases hbt
      clear htb hbt hbw
      go_wp2_with (at_builtin; refine app_int w _ rfl _ _ rfl w.heap.size _ (ints (orb f k 0)) rfl hown rfl hlen hbs ?_; intro v' w' hown' hb'; have hcell := (hb'.cell (p := ⟨b, off + t, none⟩) hbb).trans ((HB.out.cell (p := ⟨b, off + t, none⟩) hbb).trans hcell1))
      have HJ : OwnV w' w.heap.size v' (ints (orb f k (0 + 1))) := by rw [ints_orb_succ, TT0]; exact hown'
      rw [← SS.out, ← TT.out]
      go_step3
      try simp only [Exit.jump]
      exact ⟨rfl, ⟨0 + 1, v', _, _, _, _, _, _, _, _, _, _, _, _, _, _, _, _, _, rfl, HJ, ND.out, NO.out, HB.out.trans hb'⟩⟩
    · have hz : ((q : Int) == 0) = false := by rw [hbt] at htb; simp at htb; simp [htb]
      have hme := ME.out.1 hbt
      have hwl : 0 + 1 = wl f k := way_done hf hk (by omega) ND.out hme
      clear htb hbt hbw
      go_wp2_with (at_builtin; refine app_int w _ rfl _ _ rfl w.heap.size _ (ints (orb f k 0)) rfl hown rfl hlen hbs ?_; intro v' w' hown' hb'; have hcell := (hb'.cell (p := ⟨b, off + t, none⟩) hbb).trans ((HB.out.cell (p := ⟨b, off + t, none⟩) hbb).trans hcell1))
      have HJ : OwnV w' w.heap.size v' (ints (way f k)) := by rw [way, ← hwl, ints_orb_succ, TT0]; exact hown'
      try simp only [Exit.jump]
      try rw [Exit.noGoto_ret]
      go_ret2
      exact ⟨v', by rw [← hwl, TT.out]; rfl, HJ, HB.out.trans hb'⟩
  · rintro a' wr ⟨i, v, u10, u11, u12, u13, u14, u15, u16, u17, u18, u19, u20, u21, u22, u23, u24, u25, u26, rfl, hown, hnd, hno, hbw⟩
    obtain ⟨s, hs⟩ : ∃ s, seenK f k i = s := ⟨_, rfl⟩
    obtain ⟨t, ht⟩ : ∃ t, it f i k = t := ⟨_, rfl⟩
    rw [ht] at hno
    rw [hs, ht]
    have htl : t < f.length := by rw [← ht]; exact it_lt hf hk i
    have hs7 : s < 128 := by have := seenK_lt hf hk i; have := (two_le h7).2; rw [← hs]; omega
    have h2 := two_le (k := t) (by omega)
    have hi1 : (1 : Int) ≤ 2 ^ t := by rw [castPow]; omega
    have hi2 : (2 : Int) ^ t ≤ 128 := by rw [castPow]; omega
    obtain ⟨s', hs'⟩ : ∃ s', s' = s ||| 2 ^ t := ⟨_, rfl⟩
    obtain ⟨t', ht'⟩ : ∃ t', t' = nx f t := ⟨_, rfl⟩
    have hor : bits .or .i64 (s : Int) (2 ^ t) = (s' : Int) := by rw [castPow, hs']; exact bits_or _ _ (by omega) (by omega)
    have hcell1 : w.cell? ⟨b, off + t, none⟩ = some (.int .i64 (t' : Int)) := by rw [HC.out t htl, gI_ints, ht']
    have hs1 : seenK f k (i + 1) = s' := by rw [seenK, hs, ht, hs']
    have ht1 : it f (i + 1) k = t' := by rw [it_succ, ht, ht']
    have hs7' : s' < 128 := by have := seenK_lt hf hk (i + 1); have := (two_le h7).2; rw [← hs1]; omega
    have htl' : t' < f.length := by rw [← ht1]; exact it_lt hf hk _
    have h2' := two_le (k := t') (by omega)
    have hi1' : (1 : Int) ≤ 2 ^ t' := by rw [castPow]; omega
    have hi2' : (2 : Int) ^ t' ≤ 128 := by rw [castPow]; omega
    have hnd' := orb_nodup_succ hnd (by rw [ht]; exact hno)
    have hle := orb_le hf hk hnd'
    have hlen : (ints (orb f k i)).length ≤ 1000000000000 := by rw [ints_len, orb_len]; omega
    obtain ⟨q, hq⟩ : ∃ q, q = s' &&& 2 ^ t' := ⟨_, rfl⟩
    have hand : bits .and .i64 (s' : Int) (2 ^ t') = (q : Int) := by rw [castPow, hq]; exact bits_and _ _ (by omega) (by omega)
    have htb : (q != 0) = s'.testBit t' := by rw [hq]; exact and_two_ne _ _
    have hmem : s'.testBit t' = true ↔ it f (i + 1) k ∈ orb f k (i + 1) := by rw [← hs1, ← ht1]; exact seenK_bit f k _ _
    have hbs := hbw.size
    have ND := Lib.hid hnd'
    have ME := Lib.hid hmem
    have SS := Lib.hid hs1
    have TT := Lib.hid ht1
    have HB := Lib.hid hbw
    have GR : Hid (seenK f k i < seenK f k (i + 1)) := seenK_grow (by rw [ht]; exact hno)
    have HS := Lib.hid hs
    have TT0 : it f i k = t := ht
    clear h2 h2' hs' ht' hq hnd' hmem hs1 ht1 hno hnd hs ht
    rcases hbt : s'.testBit t' with _ | _
    · have hz : ((q : Int) == 0) = true := by rw [hbt] at htb; simp at htb; simp [htb]
      have NO : Hid (it f (i + 1) k ∉ orb f k (i + 1)) := fun hm => by rw [ME.out.2 hm] at hbt; cases hbt
      clear htb hbt hbw
      go_wp2_with (at_builtin; refine app_int wr _ rfl _ _ rfl w.heap.size _ (ints (orb f k i)) rfl hown rfl hlen hbs ?_; intro v' w' hown' hb'; have hcell := (hb'.cell (p := ⟨b, off + t, none⟩) hbb).trans ((HB.out.cell (p := ⟨b, off + t, none⟩) hbb).trans hcell1))
      have HJ : OwnV w' w.heap.size v' (ints (orb f k (i + 1))) := by rw [ints_orb_succ, TT0]; exact hown'
      rw [← SS.out, ← TT.out]
      go_step3
      try simp only [Exit.jump]
      exact ⟨rfl, ⟨i + 1, v', _, _, _, _, _, _, _, _, _, _, _, _, _, _, _, _, _, rfl, HJ, ND.out, NO.out, HB.out.trans hb'⟩, by have := GR.out; have := HS.out; have := seenK_lt hf hk (i + 1); have := (two_le h7).2; simp [intOf]; omega⟩
    · have hz : ((q : Int) == 0) = false := by rw [hbt] at htb; simp at htb; simp [htb]
      have hme := ME.out.1 hbt
      have hwl : i + 1 = wl f k := way_done hf hk (by omega) ND.out hme
      clear htb hbt hbw
      go_wp2_with (at_builtin; refine app_int wr _ rfl _ _ rfl w.heap.size _ (ints (orb f k i)) rfl hown rfl hlen hbs ?_; intro v' w' hown' hb'; have hcell := (hb'.cell (p := ⟨b, off + t, none⟩) hbb).trans ((HB.out.cell (p := ⟨b, off + t, none⟩) hbb).trans hcell1))
      have HJ : OwnV w' w.heap.size v' (ints (way f k)) := by rw [way, ← hwl, ints_orb_succ, TT0]; exact hown'
      try simp only [Exit.jump]
      try rw [Exit.noGoto_ret]
      go_ret2
      exact ⟨v', by rw [← hwl, TT.out]; rfl, HJ, HB.out.trans hb'⟩
end Go.Proofs.Ytlbiioncpeondaa
