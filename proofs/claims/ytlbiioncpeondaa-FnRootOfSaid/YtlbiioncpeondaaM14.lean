/- Plain laws: powers of maps. -/
import Derived.Test.YtlbiioncpeondaaM13
namespace Go.Proofs.Ytlbiioncpeondaa
set_option linter.unusedVariables false

/-- f, and then g -/
def behN (f g : List Nat) : List Nat := (List.range f.length).map (fun k => nx g (nx f k))
theorem behN_len (f g : List Nat) : (behN f g).length = f.length := by simp [behN]
theorem nx_behN {f g : List Nat} {k : Nat} (hk : k < f.length) : nx (behN f g) k = nx g (nx f k) := nx_maps hk
theorem behN_map {f g : List Nat} (hf : MapN f) (hg : MapN g) (hl : f.length = g.length) : MapN (behN f g) :=
  ⟨by rw [behN_len]; exact hf.pos, by rw [behN_len]; exact hf.le7, fun k hk => by
    rw [behN_len] at hk ⊢
    rw [nx_behN hk]
    have := hg.has _ (by rw [← hl]; exact hf.has k hk)
    omega⟩
/-- f so many times -/
def powN (f : List Nat) (t : Nat) : List Nat := (List.range f.length).map (it f t)
theorem powN_len (f : List Nat) (t : Nat) : (powN f t).length = f.length := by simp [powN]
theorem nx_powN {f : List Nat} {t k : Nat} (hk : k < f.length) : nx (powN f t) k = it f t k := nx_maps hk
theorem powN_map {f : List Nat} (hf : MapN f) (t : Nat) : MapN (powN f t) :=
  ⟨by rw [powN_len]; exact hf.pos, by rw [powN_len]; exact hf.le7, fun k hk => by rw [powN_len] at hk ⊢; rw [nx_powN hk]; exact it_lt hf hk t⟩
theorem powN_beh {f : List Nat} (hf : MapN f) (a b : Nat) : behN (powN f a) (powN f b) = powN f (b + a) := by
  refine lists_eq (by rw [behN_len, powN_len, powN_len]) (fun k hk => ?_)
  rw [behN_len, powN_len] at hk
  rw [nx_behN (by rw [powN_len]; exact hk), nx_powN hk, nx_powN hk, nx_powN (it_lt hf hk a), it_add]
theorem powN_one {f : List Nat} : powN f 1 = f := by
  refine lists_eq (powN_len f 1) (fun k hk => ?_)
  rw [powN_len] at hk
  rw [nx_powN hk, it_one]
theorem powN_half {f : List Nat} (hf : MapN f) {t : Nat} (h : t % 2 = 0) : behN (powN f (t / 2)) (powN f (t / 2)) = powN f t := by
  rw [powN_beh hf]; congr 1; omega
theorem powN_odd {f : List Nat} (hf : MapN f) {t : Nat} (h : t % 2 = 1) : behN (behN (powN f (t / 2)) (powN f (t / 2))) f = powN f t := by
  rw [powN_beh hf]
  have := powN_beh hf (t / 2 + t / 2) 1
  rw [powN_one] at this
  rw [this]; congr 1; omega
theorem same_pow (f : List Nat) : (List.range f.length).map (fun k => k) = powN f 0 := by
  unfold powN; exact List.map_congr_left (fun j _ => rfl)
def behI (xs ys : List Int) : List Int := if mapOk xs && mapOk ys && decide (xs.length = ys.length) then ints (behN (toN xs) (toN ys)) else []
theorem behI_ok {f g : List Nat} (hf : MapN f) (hg : MapN g) (hl : f.length = g.length) : behI (ints f) (ints g) = ints (behN f g) := by
  unfold behI; rw [mapOk_ints hf, mapOk_ints hg, ints_len, ints_len, decide_eq_true hl, toN_ints, toN_ints]; rfl
theorem behI_no1 {xs : List Int} (ys : List Int) (h : mapOk xs = false) : behI xs ys = [] := by unfold behI; rw [h]; rfl
theorem behI_no2 {xs ys : List Int} (h : mapOk ys = false) : behI xs ys = [] := by unfold behI; rw [h, Bool.and_false]; rfl
theorem behI_no3 {xs ys : List Int} (h : ¬ xs.length = ys.length) : behI xs ys = [] := by unfold behI; rw [decide_eq_false h, Bool.and_false]; rfl
def powI (xs : List Int) (t : Int) : List Int := if mapOk xs && inB t 0 1000000 then ints (powN (toN xs) t.toNat) else []
theorem powI_ok {f : List Nat} {t : Nat} (hf : MapN f) (ht : t ≤ 1000000) : powI (ints f) (t : Int) = ints (powN f t) := by
  unfold powI
  have : inB (t : Int) 0 1000000 = true := by rw [inB_iff]; omega
  rw [mapOk_ints hf, this, toN_ints]; simp
theorem powI_no1 {xs : List Int} (t : Int) (h : mapOk xs = false) : powI xs t = [] := by unfold powI; rw [h]; rfl
theorem powI_no2 {xs : List Int} {t : Int} (h : inB t 0 1000000 = false) : powI xs t = [] := by unfold powI; rw [h, Bool.and_false]; rfl
end Go.Proofs.Ytlbiioncpeondaa
