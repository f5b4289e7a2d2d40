/- Bundle V6. -/
import Derived.ScopeJumps
import Derived.Test.YtoinlkdmfclnbaaGreatDoorYP
import Derived.Test.YtoinlkdmfclnbaaGreatDoorYV2
import Derived.Test.YtoinlkdmfclnbaaGreatDoorYV4
import Derived.Test.YtoinlkdmfclnbaaGreatDoorYV5
namespace Go.Proofs.YtoinlkdmfclnbaaGreatDoor
set_option linter.unusedVariables false
section
open Go.RowKit
def OwnRR (w : World) (B : Nat) (v : Value) (xss : List (List Int)) : Prop :=
 ∃ vs : List Value, w.ownsRow B 23 1 v xss.length vs ∧ ∀ j, j < xss.length → ∃ A n c, vs[j]? = some (.slice A n c) ∧ OwnIn w B w.heap.size A n c (gR xss j)
theorem OwnRR.nil_ (w : World) (B : Nat) : OwnRR w B (.slice none 0 0) [] := ⟨[], World.ownsRow_nil _ _ _ _, fun j hj => absurd hj (Nat.not_lt_zero _)⟩
theorem OwnRR.made (w : World) (B : Nat) (hB : B ≤ w.heap.size) : OwnRR (w.alloc (.cells #[] 23)) B (.slice (some ⟨w.heap.size, 0, none⟩) 0 0) [] :=
 ⟨[], World.ownsRow_made w #[] 0 hB (Nat.zero_le _) (by simp), fun j hj => absurd hj (Nat.not_lt_zero _)⟩
theorem ownsRow_up {w w' : World} {B k n : Nat} {e : TypeId} {v : Value} {vs : List Value} (h : w.ownsRow B e k v n vs) (hb : Below w.heap.size w w') : w'.ownsRow B e k v n vs :=
 ⟨h.1, h.2.elim .inl fun ⟨g, cap, cur, e', hg, hh, r⟩ => .inr ⟨g, cap, cur, e', hg, by rw [hb.block g (Array.getElem?_eq_some_iff.1 hh).1]; exact hh, r⟩⟩
theorem OwnRR.up {w w' : World} {B : Nat} {v : Value} {xss : List (List Int)} (h : OwnRR w B v xss) (hb : Below w.heap.size w w') : OwnRR w' B v xss := by
 obtain ⟨vs, hv, hr⟩ := h
 refine ⟨vs, ownsRow_up hv hb, fun j hj => ?_⟩
 obtain ⟨A, n, c, e, hO⟩ := hr j hj
 exact ⟨A, n, c, e, (hO.up hb).wide (Nat.le_refl _) hb.size⟩
theorem OwnRR.dn {w : World} {B : Nat} {v : Value} {xss : List (List Int)} (h : OwnRR w B v xss) (m : Nat) : OwnRR (w.drewN m) B v xss := h
theorem OwnRR.form {w : World} {B : Nat} {v : Value} {xss : List (List Int)} (h : OwnRR w B v xss) : ∃ A c, v = .slice A xss.length c ∧ RdR w w.heap.size A xss.length c xss := by
 obtain ⟨vs, hv, hr⟩ := h
 rcases hv.2 with ⟨rfl, h0⟩ | ⟨g, cap, cur, rfl, hg, hh, h1, h2, h3, h4⟩
 · have : xss = [] := List.length_eq_zero_iff.1 h0
   subst this
   exact ⟨none, 0, rfl, RdR.nil_ _ _⟩
 · refine ⟨some ⟨g, 0, none⟩, cap, rfl, rfl, by first | exact h1 | omega, by first | exact h2 | omega, fun _ => ⟨g, 0, rfl, (Array.getElem?_eq_some_iff.1 hh).1, fun k hk => ?_⟩⟩
   obtain ⟨A, n, c, e, hO⟩ := hr k hk
   exact ⟨A, n, c, by rw [Nat.zero_add, hv.cellAt k (by omega)]; exact e, hO.rd⟩
theorem ne_outer {w : World} {B lo hi n c m : Nat} {v : Value} {A : Option Addr} {xs : List Int} {vs : List Value} (hv : w.ownsRow B 23 1 v m vs) (hO : OwnIn w lo hi A n c xs) :
    ∀ g, v.ownBlock = some g → (Value.slice A n c).ownBlock ≠ some g := by
 intro g hg hk
 have hO2 := hO.1.2.2
 rcases hv.2 with ⟨rfl, _⟩ | ⟨g1, cap, cur, rfl, _, hh, _⟩
 · cases hg
 rcases hO2 with ⟨e, _⟩ | ⟨g2, cap2, cur2, e, _, hh2, _⟩
 · rw [e] at hk; cases hk
 · rw [e] at hk
   cases hg; cases hk
   rw [hh] at hh2
   cases hh2
theorem OwnIn.grown {w w' : World} {lo hi n c : Nat} {A : Option Addr} {xs : List Int} {row : Option Nat} (h : OwnIn w lo hi A n c xs) (hg : w.grownBy w' row) (hne : ∀ g, row = some g → (Value.slice A n c).ownBlock ≠ some g) : OwnIn w' lo hi A n c xs := by
 refine ⟨⟨h.1.1, h.1.2.kept hg ?_⟩, h.2⟩
 rcases hr : (Value.slice A n c).ownBlock with _ | g
 · exact .inl rfl
 · right
   intro e
   exact hne g e.symm hr
theorem app_rr {ops : Array Oper} {rest : List Oper} {o : Oper} {a : Act} {Q : Exit → Act → World → Prop} (w : World) (A : Option Addr) (n c : Nat) (hgd : o.guard = none) (s x : Operand)
    (ho : o.op = .call { callee := .builtin .append, args := #[s, x], argTypes := #[24, 24] })
    (B : Nat) (v : Value) (xss : List (List Int)) (hs : a.eval s = v) (hown : OwnRR w B v xss) (hx : a.eval x = .slice (some ⟨w.heap.size, 0, none⟩) 1 1) (ys : List Int) (hy : OwnIn w B w.heap.size A n c ys)
    (hlen : xss.length ≤ 1000000000) (hB : B ≤ w.heap.size)
    (h : ∀ v' w', OwnRR w' B v' (xss ++ [ys]) → Below B w w' → wpList Tryz.prog ops Q rest (a.put o.dst v') w') :
    wpList Tryz.prog ops Q (o :: rest) a (w.alloc (.cells #[.slice A n c] 23)) := by
 obtain ⟨i0, hi, hz0, hz1, hz2⟩ := info_parts row_info
 obtain ⟨vs, hv, hr⟩ := hown
 refine wpList_append_own _ hgd s x 24 ho B 23 i0 (.slice none 0 0) 1 24 Tryz.underlying24 hi hz0 hz1 hz2 rfl (by decide) v xss.length vs hs (hv.alloc _) ⟨w.heap.size, 0, none⟩ 1 1 [.slice A n c] hx rfl (cell_one_new _ _ _) (by simp [Value.oneCell']) (by unfold maxLen; omega) (by omega) (by simp; omega) ?_
 intro v' w' hown' hg _
 have hvl : vs.length = xss.length := by have := hv.1; omega
 have hb0 : Below w.heap.size w (w.alloc (.cells #[.slice A n c] 23)) := (Below.refl _ _).alloc (Nat.le_refl _) _
 have hsz : w.heap.size ≤ w'.heap.size := Nat.le_trans hb0.size hg.size
 refine h v' w' ⟨vs ++ [.slice A n c], by rw [List.length_append]; exact hown', fun j hj => ?_⟩ ?_
 · rcases Nat.lt_or_ge j xss.length with h1 | h1
   · obtain ⟨A1, n1, c1, e, hO⟩ := hr j h1
     refine ⟨A1, n1, c1, by rw [List.getElem?_append_left (by omega)]; exact e, ?_⟩
     have e2 : gR (xss ++ [ys]) j = gR xss j := by unfold gR; simp only [List.getD]; rw [List.getElem?_append_left h1]
     rw [e2]
     exact ((hO.up hb0).grown hg (fun g hgg => ne_outer (ownsRow_up hv hb0) (hO.up hb0) g hgg)).wide (Nat.le_refl _) hsz
   · have hj' : j = xss.length := by rw [List.length_append] at hj; simp at hj; omega
     subst hj'
     refine ⟨A, n, c, by rw [← hvl]; simp, ?_⟩
     have e2 : gR (xss ++ [ys]) xss.length = ys := by unfold gR; simp [List.getD]
     rw [e2]
     exact ((hy.up hb0).grown hg (fun g hgg => ne_outer (ownsRow_up hv hb0) (hy.up hb0) g hgg)).wide (Nat.le_refl _) hsz
 · exact ((Below.refl B w).alloc hB _).grown hg (by simp; omega) (fun k hk => (hv.lt k hk).1)
end
section
open Go.RowKit
theorem thingOk_c (A : Option Addr) (n c : Nat) (xs : List Int) (t : Int) (w : World) (h : Rd w w.heap.size A n c xs) :
    Calls Tryz.prog 116 #[.slice A n c, .int .i64 t] w fun e w' => e = .returned (.bool (atOk xs t)) ∧ w = w' := by
 have hl := h.len
 rcases hm : mapOk xs with _ | _
 · have HE : Hid (atOk xs t = false) := by unfold Hid atOk; rw [hm]; rfl
   go_enter Tryz.func116, Tryz.ntmps116
   go_wp2_with (go_at_call 68; refine (mapOk_c _ _ _ _ _ h).mono ?_; rintro e w' ⟨rfl, rfl⟩)
   go_ret
   exact ⟨boolEnd HE.out.symm, rfl⟩
 · have HE : Hid (atOk xs t = hasB n t) := by unfold Hid atOk; rw [hm, hl]; rfl
   go_enter Tryz.func116, Tryz.ntmps116
   go_wp2_with (first
    | (go_at_call 68; refine (mapOk_c _ _ _ _ _ h).mono ?_; rintro e w' ⟨rfl, rfl⟩)
    | (go_at_call 157; refine (has_c _ _ _ _ _).mono ?_; rintro e w' ⟨rfl, rfl⟩))
   go_ret
   exact ⟨boolEnd HE.out.symm, rfl⟩
set_option maxRecDepth 100000 in
set_option maxHeartbeats 1600000 in
theorem walked_ok (A : Option Addr) (c : Nat) (f : List Nat) (k : Nat) (w : World) (h : Rd w w.heap.size A f.length c (ints f)) (hf : MapN f) (hk : k < f.length) :
    Calls Tryz.prog 158 #[.slice A f.length c, .int .i64 k] w fun e w' => ∃ v, e = .returned (.tuple #[v, .int .i64 ((it f (wl f k) k : Nat) : Int)]) ∧ OwnV w' w.heap.size v (ints (way f k)) ∧ Below w.heap.size w w' := by
 have h7 := hf.le7
 have hcap := h.cap
 have hmax := h.max
 unfold maxLen at hmax
 have hfp := hf.pos
 obtain ⟨b, off, rfl, hbb, hcells⟩ := h.2.2.2 (by omega)
 have HC := Lib.hid hcells
 clear hcells
 go_enter Tryz.func158, Tryz.ntmps158
 go_wp2_with fail
 refine wp_scope_jumps 0 (fun (a' : Act) (w' : World) => ∃ (i : Nat) (v : Value) (u10 u11 u12 u13 u14 u15 u16 u17 u18 u19 u20 u21 u22 u23 u24 u25 u26 : Value), a' = ⟨#[.slice (some ⟨b, off, none⟩) f.length c, .int .i64 (k : Int), undef, undef, .slice none 0 0, .int .i64 0, v, .int .i64 ((seenK f k i : Nat) : Int), .int .i64 ((it f i k : Nat) : Int), .int .i64 (k : Int), u10, u11, u12, u13, u14, u15, u16, u17, u18, u19, u20, u21, u22, u23, u24, u25, u26, undef, undef], []⟩ ∧ OwnV w' w.heap.size v (ints (orb f k i)) ∧ (orb f k i).Nodup ∧ it f i k ∉ orb f k i ∧ Below w.heap.size w w') (fun a' _ => 128 - (intOf (a'.tmps.getD 7 undef)).toNat) rfl ?_ ?_
 · go_wp2_with fail
   go_step3
   have hown : OwnV w w.heap.size (.slice none 0 0) (ints (orb f k 0)) := OwnV.nil_ _ _
   have hnd : (orb f k 0).Nodup := by simp [orb]
   have hbw := Below.refl w.heap.size w
   obtain ⟨s, hs⟩ : ∃ s, seenK f k 0 = s := ⟨_, rfl⟩
   obtain ⟨t, ht⟩ : ∃ t, it f 0 k = t := ⟨_, rfl⟩
   have hno : t ∉ orb f k 0 := by simp [orb]
   change Exit.then _ _ Exit.normal (⟨#[.slice (some ⟨b, off, none⟩) f.length c, .int .i64 (k : Int), undef, undef, .slice none 0 0, .int .i64 0, .slice none 0 0, .int .i64 ((seenK f k 0 : Nat) : Int), .int .i64 ((it f 0 k : Nat) : Int), .int .i64 (k : Int), undef, undef, undef, undef, undef, undef, undef, undef, undef, undef, undef, undef, undef, undef, undef, undef, undef, undef, undef], []⟩ : Act) _
   rw [hs, ht]
   have htl : t < f.length := by rw [← ht]; exact it_lt hf hk 0
   have hs7 : s < 128 := by have := seenK_lt hf hk 0; have := (two_le h7).2; rw [← hs]; omega
   have h2 := two_le (k := t) (by omega)
   have hi1 : (1 : Int) ≤ 2 ^ t := by rw [castPow]; omega
   have hi2 : (2 : Int) ^ t ≤ 128 := by rw [castPow]; omega
   obtain ⟨s', hs'⟩ : ∃ s', s' = s ||| 2 ^ t := ⟨_, rfl⟩
   obtain ⟨t', ht'⟩ : ∃ t', t' = nx f t := ⟨_, rfl⟩
   have hor : bits .or .i64 (s : Int) (2 ^ t) = (s' : Int) := by rw [castPow, hs']; exact bits_or _ _ (by omega) (by omega)
   have hcell1 : w.cell? ⟨b, off + t, none⟩ = some (.int .i64 (t' : Int)) := by rw [HC.out t htl, gI_ints, ht']
   have hs1 : seenK f k (0 + 1) = s' := by rw [seenK, hs, ht, hs']
   have ht1 : it f (0 + 1) k = t' := by rw [it_succ, ht, ht']
   have hs7' : s' < 128 := by have := seenK_lt hf hk (0 + 1); have := (two_le h7).2; rw [← hs1]; omega
   have htl' : t' < f.length := by rw [← ht1]; exact it_lt hf hk _
   have h2' := two_le (k := t') (by omega)
   have hi1' : (1 : Int) ≤ 2 ^ t' := by rw [castPow]; omega
   have hi2' : (2 : Int) ^ t' ≤ 128 := by rw [castPow]; omega
   have hnd' := orb_nodup_succ hnd (by rw [ht]; exact hno)
   have hle := orb_le hf hk hnd'
   have hlen : (ints (orb f k 0)).length ≤ 1000000000000 := by rw [ints_len, orb_len]; omega
   obtain ⟨q, hq⟩ : ∃ q, q = s' &&& 2 ^ t' := ⟨_, rfl⟩
   have hand : bits .and .i64 (s' : Int) (2 ^ t') = (q : Int) := by rw [castPow, hq]; exact bits_and _ _ (by omega) (by omega)
   have htb : (q != 0) = s'.testBit t' := by rw [hq]; exact and_two_ne _ _
   have hmem : s'.testBit t' = true ↔ it f (0 + 1) k ∈ orb f k (0 + 1) := by rw [← hs1, ← ht1]; exact seenK_bit f k _ _
   have hbs := hbw.size
   have ND := Lib.hid hnd'
   have ME := Lib.hid hmem
   have SS := Lib.hid hs1
   have TT := Lib.hid ht1
   have HB := Lib.hid hbw
   have GR : Hid (seenK f k 0 < seenK f k (0 + 1)) := seenK_grow (by rw [ht]; exact hno)
   have HS := Lib.hid hs
   have TT0 : it f 0 k = t := ht
   clear h2 h2' hs' ht' hq hnd' hmem hs1 ht1 hno hnd hs ht
   rcases hbt : s'.testBit t' with _ | _
   · have hz : ((q : Int) == 0) = true := by rw [hbt] at htb; simp at htb; simp [htb]
     have NO : Hid (it f (0 + 1) k ∉ orb f k (0 + 1)) := fun hm => by rw [ME.out.2 hm] at hbt; cases hbt
     clear htb hbt hbw
     go_wp2_with (at_builtin; refine app_int w _ rfl _ _ rfl w.heap.size _ (ints (orb f k 0)) rfl hown rfl hlen hbs ?_; intro v' w' hown' hb'; have hcell := (hb'.cell (p := ⟨b, off + t, none⟩) hbb).trans ((HB.out.cell (p := ⟨b, off + t, none⟩) hbb).trans hcell1))
     have HJ : OwnV w' w.heap.size v' (ints (orb f k (0 + 1))) := by rw [ints_orb_succ, TT0]; exact hown'
     rw [← SS.out, ← TT.out]
     go_step3
     try simp only [Exit.jump]
     exact ⟨rfl, ⟨0 + 1, v', _, _, _, _, _, _, _, _, _, _, _, _, _, _, _, _, _, rfl, HJ, ND.out, NO.out, HB.out.trans hb'⟩⟩
   · have hz : ((q : Int) == 0) = false := by rw [hbt] at htb; simp at htb; simp [htb]
     have hme := ME.out.1 hbt
     have hwl : 0 + 1 = wl f k := way_done hf hk (by omega) ND.out hme
     clear htb hbt hbw
     go_wp2_with (at_builtin; refine app_int w _ rfl _ _ rfl w.heap.size _ (ints (orb f k 0)) rfl hown rfl hlen hbs ?_; intro v' w' hown' hb'; have hcell := (hb'.cell (p := ⟨b, off + t, none⟩) hbb).trans ((HB.out.cell (p := ⟨b, off + t, none⟩) hbb).trans hcell1))
     have HJ : OwnV w' w.heap.size v' (ints (way f k)) := by rw [way, ← hwl, ints_orb_succ, TT0]; exact hown'
     try simp only [Exit.jump]
     try rw [Exit.noGoto_ret]
     go_ret2
     exact ⟨v', by rw [← hwl, TT.out]; rfl, HJ, HB.out.trans hb'⟩
 · rintro a' wr ⟨i, v, u10, u11, u12, u13, u14, u15, u16, u17, u18, u19, u20, u21, u22, u23, u24, u25, u26, rfl, hown, hnd, hno, hbw⟩
   obtain ⟨s, hs⟩ : ∃ s, seenK f k i = s := ⟨_, rfl⟩
   obtain ⟨t, ht⟩ : ∃ t, it f i k = t := ⟨_, rfl⟩
   rw [ht] at hno
   rw [hs, ht]
   have htl : t < f.length := by rw [← ht]; exact it_lt hf hk i
   have hs7 : s < 128 := by have := seenK_lt hf hk i; have := (two_le h7).2; rw [← hs]; omega
   have h2 := two_le (k := t) (by omega)
   have hi1 : (1 : Int) ≤ 2 ^ t := by rw [castPow]; omega
   have hi2 : (2 : Int) ^ t ≤ 128 := by rw [castPow]; omega
   obtain ⟨s', hs'⟩ : ∃ s', s' = s ||| 2 ^ t := ⟨_, rfl⟩
   obtain ⟨t', ht'⟩ : ∃ t', t' = nx f t := ⟨_, rfl⟩
   have hor : bits .or .i64 (s : Int) (2 ^ t) = (s' : Int) := by rw [castPow, hs']; exact bits_or _ _ (by omega) (by omega)
   have hcell1 : w.cell? ⟨b, off + t, none⟩ = some (.int .i64 (t' : Int)) := by rw [HC.out t htl, gI_ints, ht']
   have hs1 : seenK f k (i + 1) = s' := by rw [seenK, hs, ht, hs']
   have ht1 : it f (i + 1) k = t' := by rw [it_succ, ht, ht']
   have hs7' : s' < 128 := by have := seenK_lt hf hk (i + 1); have := (two_le h7).2; rw [← hs1]; omega
   have htl' : t' < f.length := by rw [← ht1]; exact it_lt hf hk _
   have h2' := two_le (k := t') (by omega)
   have hi1' : (1 : Int) ≤ 2 ^ t' := by rw [castPow]; omega
   have hi2' : (2 : Int) ^ t' ≤ 128 := by rw [castPow]; omega
   have hnd' := orb_nodup_succ hnd (by rw [ht]; exact hno)
   have hle := orb_le hf hk hnd'
   have hlen : (ints (orb f k i)).length ≤ 1000000000000 := by rw [ints_len, orb_len]; omega
   obtain ⟨q, hq⟩ : ∃ q, q = s' &&& 2 ^ t' := ⟨_, rfl⟩
   have hand : bits .and .i64 (s' : Int) (2 ^ t') = (q : Int) := by rw [castPow, hq]; exact bits_and _ _ (by omega) (by omega)
   have htb : (q != 0) = s'.testBit t' := by rw [hq]; exact and_two_ne _ _
   have hmem : s'.testBit t' = true ↔ it f (i + 1) k ∈ orb f k (i + 1) := by rw [← hs1, ← ht1]; exact seenK_bit f k _ _
   have hbs := hbw.size
   have ND := Lib.hid hnd'
   have ME := Lib.hid hmem
   have SS := Lib.hid hs1
   have TT := Lib.hid ht1
   have HB := Lib.hid hbw
   have GR : Hid (seenK f k i < seenK f k (i + 1)) := seenK_grow (by rw [ht]; exact hno)
   have HS := Lib.hid hs
   have TT0 : it f i k = t := ht
   clear h2 h2' hs' ht' hq hnd' hmem hs1 ht1 hno hnd hs ht
   rcases hbt : s'.testBit t' with _ | _
   · have hz : ((q : Int) == 0) = true := by rw [hbt] at htb; simp at htb; simp [htb]
     have NO : Hid (it f (i + 1) k ∉ orb f k (i + 1)) := fun hm => by rw [ME.out.2 hm] at hbt; cases hbt
     clear htb hbt hbw
     go_wp2_with (at_builtin; refine app_int wr _ rfl _ _ rfl w.heap.size _ (ints (orb f k i)) rfl hown rfl hlen hbs ?_; intro v' w' hown' hb'; have hcell := (hb'.cell (p := ⟨b, off + t, none⟩) hbb).trans ((HB.out.cell (p := ⟨b, off + t, none⟩) hbb).trans hcell1))
     have HJ : OwnV w' w.heap.size v' (ints (orb f k (i + 1))) := by rw [ints_orb_succ, TT0]; exact hown'
     rw [← SS.out, ← TT.out]
     go_step3
     try simp only [Exit.jump]
     exact ⟨rfl, ⟨i + 1, v', _, _, _, _, _, _, _, _, _, _, _, _, _, _, _, _, _, rfl, HJ, ND.out, NO.out, HB.out.trans hb'⟩, by have := GR.out; have := HS.out; have := seenK_lt hf hk (i + 1); have := (two_le h7).2; simp [intOf]; omega⟩
   · have hz : ((q : Int) == 0) = false := by rw [hbt] at htb; simp at htb; simp [htb]
     have hme := ME.out.1 hbt
     have hwl : i + 1 = wl f k := way_done hf hk (by omega) ND.out hme
     clear htb hbt hbw
     go_wp2_with (at_builtin; refine app_int wr _ rfl _ _ rfl w.heap.size _ (ints (orb f k i)) rfl hown rfl hlen hbs ?_; intro v' w' hown' hb'; have hcell := (hb'.cell (p := ⟨b, off + t, none⟩) hbb).trans ((HB.out.cell (p := ⟨b, off + t, none⟩) hbb).trans hcell1))
     have HJ : OwnV w' w.heap.size v' (ints (way f k)) := by rw [way, ← hwl, ints_orb_succ, TT0]; exact hown'
     try simp only [Exit.jump]
     try rw [Exit.noGoto_ret]
     go_ret2
     exact ⟨v', by rw [← hwl, TT.out]; rfl, HJ, HB.out.trans hb'⟩
end
section
open Go.RowKit
def Idx (xs : List Int) (n : Nat) (v : Int) (w : World) (e : Ending) (w' : World) : Prop :=
 w = w' ∧ ((e = .returned (.int .i64 (-1)) ∧ ∀ j, j < n → gI xs j ≠ v) ∨ ∃ j : Nat, j < n ∧ e = .returned (.int .i64 j) ∧ gI xs j = v ∧ ∀ i, i < j → gI xs i ≠ v)
set_option maxHeartbeats 400000 in
theorem index_c (A : Option Addr) (n c : Nat) (xs : List Int) (v : Int) (w : World) (h : Rd w w.heap.size A n c xs) :
    Calls Tryz.prog 233 #[.slice A n c, .int .i64 v] w (Idx xs n v w) := by
 have hm := h.max
 have hc := h.cap
 unfold maxLen at hm
 go_enter Tryz.func233, Tryz.ntmps233
 go_wp2_with fail
 go_loopw [8] (fun i wr => ∃ k : Nat, k ≤ n ∧ i = .int .i64 k ∧ (∀ j, j < k → gI xs j ≠ v) ∧ wr = w) (fun i _ => n - (intOf i).toNat)
 case atStart => exact ⟨0, Nat.zero_le _, rfl, fun j hj => absurd hj (Nat.not_lt_zero _), rfl⟩
 case round =>
  obtain ⟨k, hk, rfl, hall, rfl⟩ := hrel
  have HA := Lib.hid hall
  clear hall
  by_cases hlt : k < n
  · obtain ⟨b, off, rfl, hb, hcell⟩ := h.at_ hlt
    by_cases he : gI xs k = v
    · have hq : (v == gI xs k) = true := by rw [he]; simp
      have HE := Lib.hid he
      clear he
      go_wp2_with fail
      go_ret
      exact ⟨rfl, .inr ⟨k, hlt, rfl, HE.out, HA.out⟩⟩
    · have hq : (v == gI xs k) = false := by rw [beq_eq_false_iff_ne]; exact fun e => he e.symm
      have HE := Lib.hid he
      clear he
      go_wp2_with fail
      go_roundw
      case rel => exact ⟨k + 1, by omega, by go_num, fun j hj => by
       rcases Nat.lt_or_ge j k with h' | h'
       · exact HA.out j h'
       · obtain rfl : j = k := by omega
         exact HE.out, trivial⟩
      case measure => simp [intOf]; omega
  · obtain rfl : k = n := by omega
    go_wp2_with fail
    go_ret
    exact ⟨rfl, .inl ⟨rfl, HA.out⟩⟩
def tailI (xs : List Int) (t : Int) : Int := if atOk xs t then (tl (toN xs) t.toNat : Int) else -1
theorem tailI_ok {f : List Nat} {k : Nat} (hf : MapN f) (hk : k < f.length) : tailI (ints f) (k : Int) = (tl f k : Int) := by
 unfold tailI; rw [if_pos (atOk_ints hf hk), toN_ints]; simp
theorem tailI_no {xs : List Int} {t : Int} (h : atOk xs t = false) : tailI xs t = -1 := by unfold tailI; rw [h]; simp
def Way (xs : List Int) (t : Int) (w : World) (e : Ending) (w' : World) : Prop := ∃ v, e = .returned v ∧ OwnV w' w.heap.size v (wayI xs t) ∧ Below w.heap.size w w'
set_option maxHeartbeats 400000 in
theorem wayFrom_c (A : Option Addr) (n c : Nat) (xs : List Int) (t : Int) (w : World) (h : Rd w w.heap.size A n c xs) :
    Calls Tryz.prog 118 #[.slice A n c, .int .i64 t] w (Way xs t w) := by
 rcases hs : atOk xs t with _ | _
 · have HW := Lib.hid (wayI_no hs)
   go_enter Tryz.func118, Tryz.ntmps118
   go_wp2_with (go_at_call 116; refine (thingOk_c _ _ _ _ _ _ h).mono ?_; rintro e w' ⟨rfl, rfl⟩)
   go_ret
   exact ⟨_, rfl, by rw [HW.out]; exact OwnV.nil_ _ _, Below.refl _ _⟩
 · obtain ⟨f, k, rfl, rfl, hf, hk⟩ := atOk_ex hs
   obtain rfl : n = f.length := by rw [← h.len, ints_len]
   have HW := Lib.hid (wayI_ok hf hk)
   go_enter Tryz.func118, Tryz.ntmps118
   go_wp2_with fail
   refine (thingOk_c _ _ _ _ _ _ h).mono ?_
   rintro e w' ⟨rfl, rfl⟩
   go_wp2_with fail
   refine (walked_ok _ _ f k _ h hf hk).mono ?_
   rintro e w1 ⟨v, rfl, hO, hb⟩
   go_wp2_with fail
   go_ret
   exact ⟨_, rfl, by rw [HW.out]; exact hO, hb⟩
set_option maxHeartbeats 400000 in
theorem tailOf_c (A : Option Addr) (n c : Nat) (xs : List Int) (t : Int) (w : World) (h : Rd w w.heap.size A n c xs) :
    Calls Tryz.prog 207 #[.slice A n c, .int .i64 t] w fun e w' => e = .returned (.int .i64 (tailI xs t)) ∧ Below w.heap.size w w' := by
 rcases hs : atOk xs t with _ | _
 · have HW := Lib.hid (tailI_no hs)
   go_enter Tryz.func207, Tryz.ntmps207
   go_wp2_with (go_at_call 116; refine (thingOk_c _ _ _ _ _ _ h).mono ?_; rintro e w' ⟨rfl, rfl⟩)
   go_ret
   exact ⟨intEnd HW.out.symm, Below.refl _ _⟩
 · obtain ⟨f, k, rfl, rfl, hf, hk⟩ := atOk_ex hs
   obtain rfl : n = f.length := by rw [← h.len, ints_len]
   have HW := Lib.hid (tailI_ok hf hk)
   have HT := Lib.hid (tl_is hf hk)
   have HU := Lib.hid (wl_isWay hf hk)
   go_enter Tryz.func207, Tryz.ntmps207
   go_wp2_with fail
   refine (thingOk_c _ _ _ _ _ _ h).mono ?_
   rintro e w' ⟨rfl, rfl⟩
   go_wp2_with fail
   refine (walked_ok _ _ f k _ h hf hk).mono ?_
   rintro e w1 ⟨v, rfl, hO, hb⟩
   obtain ⟨A1, c1, rfl, hO1⟩ := hO.form
   have hlw : (ints (way f k)).length = wl f k := by rw [ints_len, way, orb_len]
   have hg : ∀ j, j < wl f k → gI (ints (way f k)) j = (it f j k : Int) := fun j hj => by
    rw [gI_ints, nx_get (by rw [way, orb_len]; exact hj)]; simp only [way]; rw [orb_get]
   have HG := Lib.hid hg
   have HL := Lib.hid hlw
   clear hg hlw
   go_wp2_with fail
   refine (index_c _ _ _ _ _ _ hO1.rd).mono ?_
   rintro e w2 ⟨rfl, hi⟩
   obtain ⟨rfl, hno⟩ | ⟨j, hj, rfl, hjv, hjm⟩ := hi
   · exfalso
     rw [HL.out] at hno
     have := hno _ HT.out.1
     rw [HG.out _ HT.out.1, HT.out.2] at this
     exact this rfl
   · rw [HL.out] at hj
     have e1 : it f j k = it f (wl f k) k := by rw [HG.out j hj] at hjv; omega
     have e2 := tl_eq HU.out hj e1
     go_wp2_with fail
     go_ret
     exact ⟨intEnd (by rw [HW.out, e2]), hb⟩
set_option maxHeartbeats 400000 in
theorem onLoop_c (A : Option Addr) (n c : Nat) (xs : List Int) (t : Int) (w : World) (h : Rd w w.heap.size A n c xs) :
    Calls Tryz.prog 236 #[.slice A n c, .int .i64 t] w fun e w' => e = .returned (.bool (tailI xs t == 0)) ∧ Below w.heap.size w w' := by
 go_enter Tryz.func236, Tryz.ntmps236
 go_wp2_with (go_at_call 207; refine (tailOf_c _ _ _ _ _ _ h).mono ?_; rintro e w' ⟨rfl, hb⟩)
 go_ret
 exact ⟨rfl, hb⟩
end
section
open Go.RowKit
end
section
open Go.RowKit
def MinOut (xs : List Int) (n : Nat) (w : World) (e : Ending) (w' : World) : Prop :=
 w = w' ∧ ∃ r : Int, e = .returned (.int .i64 r) ∧ (∃ j, j < n ∧ gI xs j = r) ∧ ∀ j, j < n → r ≤ gI xs j
set_option maxHeartbeats 400000 in
theorem min_c (A : Option Addr) (n c : Nat) (xs : List Int) (w : World) (h : Rd w w.heap.size A n c xs) (h0 : 0 < n) :
    Calls Tryz.prog 208 #[.slice A n c] w (MinOut xs n w) := by
 have hm := h.max
 have hc := h.cap
 unfold maxLen at hm
 obtain ⟨b, off, rfl, hb, hcells⟩ := h.2.2.2 h0
 have hc0 := hcells 0 h0
 rw [Nat.add_zero] at hc0
 have HC := Lib.hid hcells
 clear hcells
 go_enter Tryz.func208, Tryz.ntmps208
 go_wp2_with fail
 go_loopw [3, 4] (fun m i wr => ∃ (k : Nat) (r : Int), 1 ≤ k ∧ k ≤ n ∧ i = .int .i64 k ∧ m = .int .i64 r ∧ (∃ j, j < k ∧ gI xs j = r) ∧ (∀ j, j < k → r ≤ gI xs j) ∧ wr = w) (fun _ i _ => n - (intOf i).toNat)
 case atStart => exact ⟨1, _, Nat.le_refl _, h0, rfl, rfl, ⟨0, by omega, rfl⟩, fun j hj => by rw [show j = 0 by omega]; exact Int.le_refl _, rfl⟩
 case round =>
  obtain ⟨k, r, hk1, hk, rfl, rfl, hex, hall, rfl⟩ := hrel
  have HA := Lib.hid hall
  have HX := Lib.hid hex
  clear hall hex hc0
  by_cases hlt : k < n
  · have hcell := HC.out k hlt
    by_cases he : gI xs k < r
    · have he2 : ¬ (r < gI xs k) := by omega
      have he3 : ¬ (r ≤ gI xs k) := by omega
      have HE := Lib.hid he
      go_wp2_with fail
      go_roundw
      case rel => exact ⟨k + 1, gI xs k, by omega, by omega, by go_num, by rfl, ⟨k, by omega, rfl⟩, fun j hj => by
       rcases Nat.lt_or_ge j k with h' | h'
       · have := HA.out j h'; have := HE.out; omega
       · obtain rfl : j = k := by omega
         exact Int.le_refl _, trivial⟩
      case measure => simp [intOf]; omega
    · have HE := Lib.hid he
      go_wp2_with fail
      go_roundw
      case rel => exact ⟨k + 1, r, by omega, by omega, by go_num, by rfl, by obtain ⟨j, hj, e⟩ := HX.out; exact ⟨j, by omega, e⟩, fun j hj => by
       rcases Nat.lt_or_ge j k with h' | h'
       · exact HA.out j h'
       · obtain rfl : j = k := by omega
         have := HE.out; omega, trivial⟩
      case measure => simp [intOf]; omega
  · obtain rfl : k = n := by omega
    go_wp2_with fail
    go_ret
    exact ⟨rfl, r, rfl, HX.out, HA.out⟩
theorem Rd.drop_ {w : World} {B g n c k : Nat} {xs : List Int} (h : Rd w B (some ⟨g, 0, none⟩) n c xs) (hk : k ≤ n) : Rd w B (some ⟨g, k, none⟩) (n - k) (c - k) (xs.drop k) := by
 refine ⟨by rw [List.length_drop, h.len], by have := h.cap; omega, by have := h.max; omega, fun hp => ?_⟩
 obtain ⟨b, off, e, hb, hc⟩ := h.2.2.2 (by omega)
 cases e
 refine ⟨g, k, rfl, hb, fun j hj => ?_⟩
 have := hc (k + j) (by omega)
 rw [Nat.zero_add] at this
 rw [this]; unfold gI; simp [List.getD]
def loopI (xs : List Int) (t : Int) : Int := if atOk xs t then (lo (toN xs) t.toNat : Int) else -1
theorem loopI_ok {f : List Nat} {k : Nat} (hf : MapN f) (hk : k < f.length) : loopI (ints f) (k : Int) = (lo f k : Int) := by
 unfold loopI; rw [if_pos (atOk_ints hf hk), toN_ints]; simp
theorem loopI_no {xs : List Int} {t : Int} (h : atOk xs t = false) : loopI xs t = -1 := by unfold loopI; rw [h]; simp
theorem OwnV.some_ {w : World} {B : Nat} {v : Value} {xs : List Int} (h : OwnV w B v xs) (h0 : 0 < xs.length) : ∃ g c, v = .slice (some ⟨g, 0, none⟩) xs.length c ∧ Rd w w.heap.size (some ⟨g, 0, none⟩) xs.length c xs := by
 obtain ⟨A, c, rfl, ho⟩ := h.form
 obtain ⟨g, rfl⟩ := ho.inn.some_ h0
 exact ⟨g, c, rfl, ho.rd⟩
set_option maxHeartbeats 800000 in
theorem loopOf_c (A : Option Addr) (n c : Nat) (xs : List Int) (t : Int) (w : World) (h : Rd w w.heap.size A n c xs) :
    Calls Tryz.prog 179 #[.slice A n c, .int .i64 t] w fun e w' => e = .returned (.int .i64 (loopI xs t)) ∧ Below w.heap.size w w' := by
 rcases hs : atOk xs t with _ | _
 · have HW := Lib.hid (loopI_no hs)
   go_enter Tryz.func179, Tryz.ntmps179
   go_wp2_with (go_at_call 116; refine (thingOk_c _ _ _ _ _ _ h).mono ?_; rintro e w' ⟨rfl, rfl⟩)
   go_ret
   exact ⟨intEnd HW.out.symm, Below.refl _ _⟩
 · obtain ⟨f, k, rfl, rfl, hf, hk⟩ := atOk_ex hs
   obtain rfl : n = f.length := by rw [← h.len, ints_len]
   have HW := Lib.hid (loopI_ok hf hk)
   have hwi := wayI_ok hf hk
   have hti := tailI_ok hf hk
   have hlw : (ints (way f k)).length = wl f k := by rw [ints_len, way, orb_len]
   have htl := (tl_is hf hk).1
   have hwl := wl_le hf hk
   have h7 := hf.le7
   have hg : ∀ j, j < wl f k → gI (ints (way f k)) j = (it f j k : Int) := fun j hj => by
    rw [gI_ints, nx_get (by rw [way, orb_len]; exact hj)]; simp only [way]; rw [orb_get]
   have HG := Lib.hid hg
   clear hg
   go_enter Tryz.func179, Tryz.ntmps179
   go_wp2_with fail
   refine (thingOk_c _ _ _ _ _ _ h).mono ?_
   rintro e w' ⟨rfl, rfl⟩
   go_wp2_with fail
   refine (wayFrom_c _ _ _ _ _ _ h).mono ?_
   rintro e w1 ⟨v, rfl, hO, hb⟩
   rw [hwi] at hO
   obtain ⟨g, c1, rfl, hr⟩ := hO.some_ (by omega)
   rw [hlw] at hr ⊢
   have hrd := h.up hb
   have hcp := hr.cap
   have hmx := hr.max
   unfold maxLen at hmx
   go_wp2_with fail
   refine (tailOf_c _ _ _ _ _ _ hrd).mono ?_
   rintro e w2 ⟨rfl, hb2⟩
   rw [hti]
   have hr2 := (hr.up hb2).drop_ (k := tl f k) (by omega)
   have hbb := bt hb hb2
   clear hO hwi
   go_wp2_with fail
   refine (min_c _ _ _ _ _ hr2 (by omega)).mono ?_
   rintro e w3 ⟨rfl, r, rfl, ⟨j, hj, hjr⟩, hall⟩
   have hgd : ∀ i, gI ((ints (way f k)).drop (tl f k)) i = gI (ints (way f k)) (tl f k + i) := fun i => by unfold gI; simp [List.getD]
   rw [hgd, HG.out _ (by omega)] at hjr
   obtain rfl : r = ((it f (tl f k + j) k : Nat) : Int) := hjr.symm
   have hr := lo_eq hf (r := it f (tl f k + j) k) hk ⟨_, by omega, by omega, rfl⟩ (fun i h1 h2 => by
    have := hall (i - tl f k) (by omega)
    rw [hgd, show tl f k + (i - tl f k) = i by omega, HG.out i h2] at this
    omega)
   rw [hr]
   go_wp2_with fail
   go_ret
   exact ⟨intEnd HW.out.symm, hbb⟩
end
section
open Go.RowKit
def loopsI (xs : List Int) : List (List Int) := if mapOk xs then loopsN (toN xs) else []
theorem loopsI_ok {f : List Nat} (hf : MapN f) : loopsI (ints f) = loopsN f := by unfold loopsI; rw [if_pos (mapOk_ints hf), toN_ints]
theorem loopsI_no {xs : List Int} (h : mapOk xs = false) : loopsI xs = [] := by unfold loopsI; rw [h]; simp
def Rows (xss : List (List Int)) (w : World) (e : Ending) (w' : World) : Prop := ∃ v, e = .returned v ∧ OwnRR w' w.heap.size v xss ∧ Below w.heap.size w w'
set_option maxRecDepth 100000 in
set_option maxHeartbeats 800000 in
theorem loopsOf_c (A : Option Addr) (n c : Nat) (xs : List Int) (w : World) (h : Rd w w.heap.size A n c xs) :
    Calls Tryz.prog 148 #[.slice A n c] w (Rows (loopsI xs) w) := by
 rcases hs : mapOk xs with _ | _
 · have HW := Lib.hid (loopsI_no hs)
   go_enter Tryz.func148, Tryz.ntmps148
   go_wp2_with (go_at_call 68; refine (mapOk_c _ _ _ _ _ h).mono ?_; rintro e w' ⟨rfl, rfl⟩)
   go_ret
   exact ⟨_, rfl, by rw [HW.out]; exact OwnRR.nil_ _ _, Below.refl _ _⟩
 · obtain ⟨f, rfl, hf⟩ := mapOk_ex hs
   obtain rfl : n = f.length := by rw [← h.len, ints_len]
   have HW := Lib.hid (loopsI_ok hf)
   have h7 := hf.le7
   go_enter Tryz.func148, Tryz.ntmps148
   go_wp2_with (go_at_call 68; refine (mapOk_c _ _ _ _ _ h).mono ?_; rintro e w' ⟨rfl, rfl⟩)
   go_loopw [3, 10] (fun v i wr => ∃ k : Nat, k ≤ f.length ∧ i = .int .i64 k ∧ OwnRR wr w.heap.size v (loopsK f k) ∧ Below w.heap.size w wr) (fun _ i _ => f.length - (intOf i).toNat)
   case atStart => exact ⟨0, Nat.zero_le _, rfl, OwnRR.nil_ _ _, Below.refl _ _⟩
   case round =>
    obtain ⟨k, hk, rfl, hown, hbw⟩ := hrel
    by_cases hlt : k < f.length
    · have hli := loopI_ok hf hlt
      have hwi := wayI_ok hf hlt
      have hrd := h.up hbw
      go_wp2_with fail
      refine (loopOf_c _ _ _ _ _ _ hrd).mono ?_
      rintro e w1 ⟨rfl, hb1⟩
      rw [hli]
      have hown1 := hown.up hb1
      have hrd1 := hrd.up hb1
      have hbw1 := bt hbw hb1
      clear hown hrd hbw hb1 hli
      by_cases he : lo f k = k
      · have HT := Lib.hid (loopsK_t he)
        rw [he]
        clear he
        go_wp2_with fail
        refine (wayFrom_c _ _ _ _ _ _ hrd1).mono ?_
        rintro e w2 ⟨v, rfl, hO, hb2⟩
        rw [hwi] at hO
        obtain ⟨A2, c2, rfl, hO2⟩ := hO.form
        have hown2 := hown1.up hb2
        have hbw2 := bt hbw1 hb2
        have hy := (hO2.inn).wide (lo' := w.heap.size) hbw1.size (Nat.le_refl _)
        have hln : (loopsK f k).length ≤ 1000000000 := by have := loopsK_len f k; omega
        have hsz := hbw2.size
        clear hown1 hrd1 hbw1 hb2 hO hO2 hwi
        go_wp2_with (at_builtin; refine app_rr w2 A2 _ c2 rfl _ _ rfl w.heap.size _ (loopsK f k) rfl hown2 rfl _ hy hln hsz ?_; intro v' w3 hown3 hb3)
        go_roundw
        case rel => exact ⟨k + 1, by omega, by go_num, by rw [HT.out]; exact hown3, hbw2.trans hb3⟩
        case measure => simp [intOf]; omega
      · have HT := Lib.hid (loopsK_f he)
        have hq : ((lo f k : Int) == (k : Int)) = false := by rw [beq_eq_false_iff_ne]; omega
        clear he
        go_wp2_with fail
        go_roundw
        case rel => exact ⟨k + 1, by omega, by go_num, by rw [HT.out]; exact hown1, hbw1⟩
        case measure => simp [intOf]; omega
    · obtain rfl : k = f.length := by omega
      go_wp2_with fail
      go_ret
      exact ⟨_, rfl, by rw [HW.out]; exact hown, hbw⟩
end
end Go.Proofs.YtoinlkdmfclnbaaGreatDoor
