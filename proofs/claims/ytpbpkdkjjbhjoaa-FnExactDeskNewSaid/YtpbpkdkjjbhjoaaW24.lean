/- Walks: DeskNew (spec), sameDesk, noDesk, DrawDeskNew; the law FnDeskNew (walk). -/
import Derived.Test.YtpbpkdkjjbhjoaaW23
namespace Go.Proofs.Ytpbpkdkjjbhjoaa
set_option linter.unusedVariables false
open Go.RowKit

set_option maxRecDepth 100000 in
set_option maxHeartbeats 800000 in
theorem sDeskNew_c (A : Option Addr) (n c : Nat) (xs : List Int) (w : World) (h : Rd w w.heap.size A n c xs) :
    Calls Try.prog 37 #[.slice A n c] w (NewOut w xs) := by
  have hr := Two.made w 41 (.slice none 0 0) (.slice none 0 0)
  have hb1 : Below w.heap.size w (w.alloc (.cells #[.slice none 0 0, .slice none 0 0] 41)) := (Below.refl _ _).alloc (Nat.le_refl _) _
  have h1 := h.up hb1
  have hl := h.len
  rcases hm : mapOk xs with _ | _
  · have hpost : NewOut w xs (.returned (.tuple #[.agg #[.slice none 0 0, .slice none 0 0], .bool false])) (w.alloc (.cells #[.slice none 0 0, .slice none 0 0] 41)) :=
      ⟨none, 0, 0, by rw [hm], by rw [hm]; exact OwnIn.nil_ _ _ _, hb1⟩
    have HP := Lib.hid hpost
    have HE := Lib.hid hr
    clear hpost hr
    go_enter Try.func37, Try.ntmps37
    go_wp2_with (go_at_call 18; refine (sMapOk_c _ _ _ _ _ h1).mono ?_; rintro e w' ⟨rfl, rfl⟩)
    (try simp only [Exit.inBlock, Exit.then])
    refine bodyPost_ret (v := .tuple #[.agg #[.slice none 0 0, .slice none 0 0], .bool false]) ?_ rfl HP.out
    exact Eq.trans (results_two_tmp (p := 2) (u := 3) rfl _ _ w.heap.size _ _ _ rfl HE.out Try.underlying41 rfl desk_size) rfl
  · have hbd := mapOk_bounds hm
    have h0 : 0 < n := by omega
    have hn : n ≤ 1000000000000 := by omega
    go_enter Try.func37, Try.ntmps37
    go_wp2_with fail
    refine (sMapOk_c _ _ _ _ _ h1).mono ?_
    rintro e w' ⟨rfl, rfl⟩
    generalize w.alloc (.cells #[.slice none 0 0, .slice none 0 0] 41) = w1 at *
    have hs1 := hb1.size
    have hb2 : Below w1.heap.size w1 (w1.alloc (.cells #[] 3)) := (Below.refl _ _).alloc (Nat.le_refl _) _
    have hO := OwnV.made w1 w1.heap.size #[] (Nat.le_refl _) rfl
    have hrd := h1.up hb2
    have hs2 := hb2.size
    have hra := hr.up hb2
    go_wp2_with (at_builtin; refine app_row (w1.alloc (.cells #[] 3)) rfl _ _ rfl w1.heap.size _ rfl hO A n c xs rfl hrd h0 hn hs2 ?_; intro v' w2 hown' hb'; obtain ⟨A2, c2, rfl, hown⟩ := hown'.form; have hr2 := hr.below (hb2.trans hb') hr.1; obtain ⟨hg, h20, h21, hf0, hf1⟩ := id hr2)
    have hw := hr.1
    have hO2 := hown.inn
    rw [hl] at hO2
    have hbb := hb2.trans hb'
    have hend := (hr2.set0 (.slice A2 n c2)).set1 (.slice none 0 0)
    have hch : Chg w.heap.size (w.heap.size + 1) w2 ((w2.setCell ⟨w.heap.size, 0, none⟩ (.slice A2 n c2)).setCell ⟨w.heap.size, 1, none⟩ (.slice none 0 0)) :=
      ((Chg.refl _ _ w2).setCell (p := ⟨w.heap.size, 0, none⟩) (Nat.le_refl w.heap.size) (Nat.lt_succ_self w.heap.size) _).setCell (p := ⟨w.heap.size, 1, none⟩) (Nat.le_refl w.heap.size) (Nat.lt_succ_self w.heap.size) _
    have hpost : NewOut w xs (.returned (.tuple #[.agg #[.slice A2 n c2, .slice none 0 0], .bool true])) ((w2.setCell ⟨w.heap.size, 0, none⟩ (.slice A2 n c2)).setCell ⟨w.heap.size, 1, none⟩ (.slice none 0 0)) :=
      ⟨A2, n, c2, by rw [hm], by rw [hm]; exact (hO2.chg hch (.inr (by omega))).wide (by omega) hch.size, (hb1.trans (hbb.mono hs1)).trans (hch.belowLo (Nat.le_refl _) (by have := hbb.size; omega))⟩
    (try simp only [Exit.inBlock, Exit.then])
    refine bodyPost_ret (v := .tuple #[.agg #[.slice A2 n c2, .slice none 0 0], .bool true]) ?_ rfl hpost
    exact Eq.trans (results_two_tmp (p := 2) (u := 3) rfl _ _ w.heap.size _ _ _ rfl hend Try.underlying41 rfl desk_size) rfl

set_option maxRecDepth 100000 in
set_option maxHeartbeats 800000 in
theorem sameDesk_c (A P A' P' : Option Addr) (n c m d n' c' m' d' : Nat) (xs xs' : List Int) (yss yss' : List (List Int)) (w : World) (h : RdD w w.heap.size A n c xs P m d yss) (h' : RdD w w.heap.size A' n' c' xs' P' m' d' yss') :
    Calls Try.prog 48 #[.agg #[.slice A n c, .slice P m d], .agg #[.slice A' n' c', .slice P' m' d']] w fun e w' => e = .returned (.bool (eqB xs xs' && eqBB yss yss')) ∧ Below w.heap.size w w' := by
  have hb1 : Below w.heap.size w (w.alloc (.cells #[.slice A n c, .slice P m d] 41)) := (Below.refl _ _).alloc (Nat.le_refl _) _
  have hb2 : Below w.heap.size w ((w.alloc (.cells #[.slice A n c, .slice P m d] 41)).alloc (.cells #[.slice A' n' c', .slice P' m' d'] 41)) := hb1.alloc (by simp) _
  have h1 := h.1.up hb2
  have h2 := h.2.up hb2
  have h1' := h'.1.up hb2
  have h2' := h'.2.up hb2
  clear hb1
  go_enter Try.func48, Try.ntmps48
  go_wp2_with fail
  refine (sameInts_c A A' n c n' c' xs xs' _ h1 h1').mono ?_
  rintro e w' ⟨rfl, k, rfl⟩
  rcases hq : eqB xs xs' with _ | _
  · go_wp2_with fail
    go_ret
    exact ⟨by rw [hq]; rfl, bd hb2 k⟩
  · go_wp2_with fail
    refine (sameRows_c P P' m d m' d' yss yss' _ (h2.dn k) (h2'.dn k)).mono ?_
    rintro e w' ⟨rfl, k2, rfl⟩
    rcases hq2 : eqBB yss yss' with _ | _
    · go_wp2_with fail
      go_ret
      exact ⟨by rw [hq, hq2]; rfl, bd hb2 (k + k2)⟩
    · go_wp2_with fail
      go_ret
      exact ⟨by rw [hq, hq2]; rfl, bd hb2 (k + k2)⟩


set_option maxRecDepth 100000 in
set_option maxHeartbeats 800000 in
theorem noDesk_c (A P : Option Addr) (n c m d : Nat) (xs : List Int) (yss : List (List Int)) (w : World) (h : RdD w w.heap.size A n c xs P m d yss) :
    Calls Try.prog 49 #[.agg #[.slice A n c, .slice P m d]] w fun e w' => e = .returned (.bool (eqB xs [] && eqBB yss [])) ∧ Below w.heap.size w w' := by
  have hb1 : Below w.heap.size w (w.alloc (.cells #[.slice A n c, .slice P m d] 41)) := (Below.refl _ _).alloc (Nat.le_refl _) _
  have h1 := h.up hb1
  go_enter Try.func49, Try.ntmps49
  go_wp2_with fail
  refine (sameDesk_c A P none none n c m d 0 0 0 0 xs [] yss [] _ h1 ⟨Rd.nil_ _ _, RdR.nil_ _ _⟩).mono ?_
  rintro e w' ⟨rfl, hb2⟩
  go_wp2_with fail
  go_ret
  exact ⟨rfl, bt hb1 hb2⟩
set_option maxHeartbeats 400000 in
theorem drawDeskNew_c (A : Option Addr) (n c : Nat) (bs : List Nat) (w : World) (h : RdB w w.heap.size A n c bs) :
    Calls Try.prog 47 #[.slice A n c] w (MapOut w) := by
  go_enter Try.func47, Try.ntmps47
  go_wp2_with (go_at_call 60; refine (open_c A n c bs _ h).mono ?_; rintro e w1 ⟨rfl, hr, hb⟩)
  refine (map_c w.heap.size w.heap.size 0 7 4 _ hr (by omega) (by omega) (by omega) (by omega)).mono ?_
  rintro e w2 ⟨A', n', c', xs, rfl, hO, hD, hr2, hC⟩
  have HS := drawn_set hb hO hC
  go_wp2_with fail
  go_ret
  exact ⟨A', n', c', xs, rfl, HS.1, hD, HS.2⟩

set_option maxRecDepth 100000 in
set_option maxHeartbeats 1600000 in
theorem walk_FnDeskNew (A : Option Addr) (n c : Nat) (bs : List Nat) (w : World) (h : RdB w w.heap.size A n c bs) :
    Calls Try.prog 12 #[.slice A n c] w fun e w' => e = .returned (.bool true) ∧ Below w.heap.size w w' := by
  have hcc := h.cap
  have hmm := h.max
  unfold maxLen at hmm
  by_cases hbig : 1048576 < n
  · go_enter Try.func12, Try.ntmps12
    go_wp2_with fail
    go_ret
    exact ⟨rfl, Below.refl _ _⟩
  go_enter Try.func12, Try.ntmps12
  go_wp2_with fail
  refine (drawDeskNew_c A n c bs _ h).mono ?_
  rintro e w1 ⟨A1, n1, c1, xs, rfl, hO, hD, hb⟩
  have hrd := hO.rd
  go_wp2_with fail
  refine (deskNew_c A1 n1 c1 xs _ hrd).mono ?_
  rintro e w2 ⟨A2, n2, c2, rfl, hO2, hb2⟩
  go_wp2_with fail
  have hd3 := Two.made w2 41 (.slice A2 n2 c2) (.slice none 0 0)
  have hb3 : Below w2.heap.size w2 (w2.alloc (.cells #[.slice A2 n2 c2, .slice none 0 0] 41)) := (Below.refl _ _).alloc (Nat.le_refl _) _
  have hO3 := hO2.up hb3
  have hrd3 := (hrd.up hb2).up hb3
  have hbw3 := bt (bt hb hb2) hb3
  clear hO2 hrd hb2 hb3 hb hO
  generalize w2.alloc (.cells #[.slice A2 n2 c2, .slice none 0 0] 41) = w3 at *
  refine (sDeskNew_c A1 n1 c1 xs _ hrd3).mono ?_
  rintro e w4 ⟨A4, n4, c4, rfl, hO4, hb4⟩
  have hd4 := hd3.up hb4
  have hO34 := hO3.up hb4
  have hrd4 := hrd3.up hb4
  have hbw4 := bt hbw3 hb4
  clear hd3 hO3 hrd3 hb4 hbw3
  have hx5 := Two.made w4 41 (.slice A4 n4 c4) (.slice none 0 0)
  have hb5 : Below w4.heap.size w4 (w4.alloc (.cells #[.slice A4 n4 c4, .slice none 0 0] 41)) := (Below.refl _ _).alloc (Nat.le_refl _) _
  have hd5 := hd4.up hb5
  have hO35 := (hO34.up hb5).rd
  have hO5 := (hO4.up hb5).rd
  have hrd5 := hrd4.up hb5
  have hbw5 := bt hbw4 hb5
  clear hd4 hO34 hO4 hrd4 hb5 hbw4
  obtain ⟨_, hd50, hd51, _, _⟩ := id hd5
  go_wp2_with fail
  generalize w4.alloc (.cells #[.slice A4 n4 c4, .slice none 0 0] 41) = w5 at *
  have hqq : (eqB (if mapOk xs then xs else []) (if mapOk xs then xs else []) && eqBB [] []) = true := by rw [eqB_self, eqBB_self]; rfl
  refine (sameDesk_c A2 none A4 none n2 c2 0 0 n4 c4 0 0 _ _ [] [] _ ⟨hO35, RdR.nil_ _ _⟩ ⟨hO5, RdR.nil_ _ _⟩).mono ?_
  rintro e w6 ⟨rfl, hb6⟩
  rw [hqq]
  have hd6 := hd5.up hb6
  have hO6 := hO35.up hb6
  have hrd6 := hrd5.up hb6
  have hbw6 := bt hbw5 hb6
  clear hd5 hO35 hrd5 hbw5 hb6 hO5 hd50 hd51 hqq hx5
  obtain ⟨_, hd60, hd61, _, _⟩ := id hd6
  rcases hm : mapOk xs with _ | _
  · rw [hm] at hO6
    have hnn : (eqB (if false = true then xs else []) [] && eqBB [] []) = true := by rw [eqBB_self]; rfl
    go_wp2_with fail
    refine (noDesk_c A2 none n2 c2 0 0 _ [] _ ⟨hO6, RdR.nil_ _ _⟩).mono ?_
    rintro e w7 ⟨rfl, hb7⟩
    rw [hnn]
    have hrd7 := hrd6.up hb7
    go_wp2_with (first
      | (go_at_call 50; refine (mapOk_c _ _ _ _ _ hrd7).mono ?_; rintro e w' ⟨rfl, rfl⟩)
      | (go_at_call 19; refine (alive_c _).mono ?_; rintro e w8 ⟨rfl, hb8⟩))
    go_ret
    exact ⟨rfl, bt (bt hbw6 hb7) hb8⟩
  · rw [hm, if_pos rfl] at hO6
    have hdk : deskOkB xs [] = true := desk_yes hm (by simp) (fun k hk => by simp at hk)
    go_wp2_with fail
    refine (deskOk_c A2 none n2 c2 0 0 xs [] _ ⟨hO6, RdR.nil_ _ _⟩).mono ?_
    rintro e w7 ⟨rfl, hb7⟩
    rw [hdk]
    obtain ⟨_, hd70, hd71, _, _⟩ := hd6.up hb7
    have hrd7 := hrd6.up hb7
    have hO7 := hO6.up hb7
    have hbw7 := bt hbw6 hb7
    have hself := eqB_self xs
    go_wp2_with fail
    refine (sameInts_c A2 A1 n2 c2 n1 c1 xs xs _ hO7 hrd7).mono ?_
    rintro e w8 ⟨rfl, k, rfl⟩
    go_wp2_with fail
    go_ret
    exact ⟨rfl, bd hbw7 _⟩
end Go.Proofs.Ytpbpkdkjjbhjoaa
