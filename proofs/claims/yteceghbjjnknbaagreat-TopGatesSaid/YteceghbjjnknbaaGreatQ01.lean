/- A bundle of texts: Tv, Gk2. -/
import Derived.Test.YteceghbjjnknbaaGreatQ00
set_option linter.unusedVariables false
set_option linter.unusedSimpArgs false
namespace Zp
inductive SubG : Nat → Nat → Nat → Nat → Prop
  | self (a n : Nat) : SubG a n a n
  | left {a n b m : Nat} (h : 2 ≤ n) (s : SubG a (leftN n) b m) : SubG a n b m
  | right {a n b m : Nat} (h : 2 ≤ n) (s : SubG (a + leftN n) (n - leftN n) b m) : SubG a n b m
theorem SubG.trans {a n b m c l : Nat} (s : SubG a n b m) (t : SubG b m c l) : SubG a n c l := by
  induction s with
  | self => exact t
  | left h s ih => exact .left h (ih t)
  | right h s ih => exact .right h (ih t)
theorem SubG.lo {a n b m : Nat} (s : SubG a n b m) (h : 2 ≤ m) : SubG a n b (leftN m) := s.trans (.left h (.self _ _))
theorem SubG.hi {a n b m : Nat} (s : SubG a n b m) (h : 2 ≤ m) : SubG a n (b + leftN m) (m - leftN m) := s.trans (.right h (.self _ _))
theorem SubG.row : ∀ (n a k : Nat), a ≤ k → k < a + n → SubG a n k 1 := by
  intro n
  induction n using Nat.strongRecOn with
  | ind n ih =>
    intro a k h1 h2
    by_cases h : 2 ≤ n
    · have hl := leftN_lt h
      by_cases h3 : k < a + leftN n
      · exact .left h (ih _ (by omega) a k h1 h3)
      · exact .right h (ih _ (by omega) _ k (by omega) (by omega))
    · obtain rfl : k = a := by omega
      obtain rfl : n = 1 := by omega
      exact .self _ _
section
variable (H E : List Int → List Int) (row : Nat → List Int) (places : List Int)
def GroupIs (f g : GF) (b m : Nat) : Prop :=
  (shownB places b m = true → ∃ l, g b m = some l ∧ f b m = some (H l) ∧ (m = 1 → l = 0 :: row b) ∧
    (2 ≤ m → ∃ x y, f b (leftN m) = some x ∧ f (b + leftN m) (m - leftN m) = some y ∧ l = 1 :: (x ++ y))) ∧
  (shownB places b m = false → g b m = none)
theorem GroupIs.congr {f g f' g' : GF} {b m : Nat} (h : GroupIs H row places f g b m) (h1 : f' b m = f b m) (h2 : g' b m = g b m)
    (h3 : 2 ≤ m → f' b (leftN m) = f b (leftN m) ∧ f' (b + leftN m) (m - leftN m) = f (b + leftN m) (m - leftN m)) : GroupIs H row places f' g' b m := by
  refine ⟨fun hs => ?_, fun hs => by rw [h2]; exact h.2 hs⟩
  obtain ⟨l, e1, e2, e3, e4⟩ := h.1 hs
  refine ⟨l, by rw [h2, e1], by rw [h1, e2], e3, fun hm => ?_⟩
  obtain ⟨x, y, e5, e6, e7⟩ := e4 hm
  exact ⟨x, y, by rw [(h3 hm).1, e5], by rw [(h3 hm).2, e6], e7⟩
end
theorem workW_four {H E : List Int → List Int} {row : Nat → List Int} {places : List Int} (hH : ∀ l, (H l).length = 4) (hE : ∀ l : List Int, l.length = 4 → (E l).length = 4) :
    ∀ (n a : Nat) (s : GF × GF) (ns : List (List Int)), 1 ≤ n → Four s.1 → (∀ l ∈ ns, l.length = 4) → (hidL places a n).length ≤ ns.length → Four (workW H E row places a n s ns).1.1 := by
  intro n
  induction n using Nat.strongRecOn with
  | ind n ih =>
    intro a s ns hn h4 hns hlen
    by_cases hs : shownB places a n = true
    · by_cases h : 2 ≤ n
      · have hl := leftN_lt h
        rw [hidL_two places hs h] at hlen
        have h1 := ih (leftN n) (by omega) a s ns (by omega) h4 hns (by omega)
        have hr := workW_rest H E row places s ns (a := a) (n := leftN n) (by omega)
        have h2 := ih (n - leftN n) (by omega) (a + leftN n) _ (workW H E row places a (leftN n) s ns).2 (by omega) h1 (fun l hl => hns l (by rw [hr] at hl; exact List.mem_of_mem_drop hl)) (by rw [hr, List.length_drop]; omega)
        rw [workW_two H E row places s ns hs h]
        exact h2.upd a n (hH _)
      · rw [workW_one H E row places s ns hs h]
        exact h4.upd a n (hH _)
    · have hs' : shownB places a n = false := by simpa using hs
      rw [workW_no H E row places s ns hs']
      rw [hidL_no places hs'] at hlen
      refine h4.upd a n (hE _ ?_)
      cases ns with
      | nil => simp at hlen
      | cons l ns => exact hns l (by simp)
end Zp

namespace Go.Proofs.YteceghbjjnknbaaGreat
open Zp
section
variable {p : Nat} [NeZero p]
theorem wtL_mod (rs : List (Fin p)) (i : Nat) : wtL rs (i % 2 ^ rs.length) = wtL rs i := by
  have h := Nat.div_add_mod i (2 ^ rs.length)
  have key : ∀ k j, wtL rs (j + 2 ^ rs.length * k) = wtL rs j := by
    intro k
    induction k with
    | zero => intro j; rw [Nat.mul_zero, Nat.add_zero]
    | succ k ih =>
      intro j
      rw [Nat.mul_succ, ← Nat.add_assoc, wtL_add rs rs.length _ (Nat.le_refl _), ih]
  rw [← key (i / 2 ^ rs.length) (i % 2 ^ rs.length)]
  congr 1
  omega
theorem wtL_split (xa xb : List (Fin p)) (i j : Nat) (hj : j < 2 ^ xb.length) : wtL (xa ++ xb) (i * 2 ^ xb.length + j) = wtL xa i * wtL xb j := by
  induction xa with
  | nil =>
    rw [List.nil_append, ← wtL_mod, Nat.mul_comm, Nat.mul_add_mod, Nat.mod_eq_of_lt hj, wtL]
    grind
  | cons r xa ih =>
    rw [List.cons_append, wtL, wtL, ih, List.length_append]
    have e : wtE r (xa.length + xb.length) (i * 2 ^ xb.length + j) = wtE r xa.length i := by
      unfold wtE
      rw [Nat.add_comm xa.length, Nat.pow_add, ← Nat.div_div_eq_div_mul, Nat.mul_comm i, Nat.mul_add_div (Nat.pow_pos (by omega)), Nat.div_eq_of_lt hj, Nat.add_zero]
    rw [e]
    grind
theorem sumT_grid (A B : Nat) (f : Nat → Fin p) : sumT (A * B) f = sumT A fun i => sumT B fun j => f (i * B + j) := by
  induction A with
  | zero => rw [Nat.zero_mul]; rfl
  | succ A ih =>
    rw [Nat.succ_mul, sumT_split', ih, sumT_succ]
    congr 1
    exact sumT_congr fun j _ => by rw [Nat.add_comm]
def mixE (T : Nat → Fin p) (A B : Nat) (w : Nat → Fin p) (j : Nat) : Fin p := sumT A fun i => w i * T (i * B + j)
theorem mix_is (T : Nat → Fin p) (xa xb : List (Fin p)) : (sumT (2 ^ xb.length) fun j => mixE T (2 ^ xa.length) (2 ^ xb.length) (wtL xa) j * wtL xb j) = extF T (xa ++ xb) := by
  rw [extF_sum, List.length_append, Nat.pow_add, sumT_grid]
  have h : (fun j => mixE T (2 ^ xa.length) (2 ^ xb.length) (wtL xa) j * wtL xb j) = fun j => sumT (2 ^ xa.length) fun i => wtL xa i * T (i * 2 ^ xb.length + j) * wtL xb j := by
    funext j
    unfold mixE
    rw [← sumT_smulR]
  rw [h, sumT_comm]
  refine sumT_congr fun i _ => sumT_congr fun j hj => ?_
  rw [wtL_split xa xb i j hj]
  grind
theorem mix_ev (T : Nat → Fin p) (A B : Nat) (w : Nat → Fin p) (x : Fin p) : ev (tab B (mixE T A B w)) x = sumT A fun i => w i * ev (tab B fun j => T (i * B + j)) x := by
  unfold mixE
  induction A with
  | zero =>
    show ev (tab B fun _ => (0 : Fin p)) x = 0
    have := ev_tab_smul B (0 : Fin p) (fun _ => (0 : Fin p)) x
    rw [show (fun _ : Nat => (0 : Fin p) * 0) = fun _ => 0 from funext fun _ => by grind] at this
    rw [this]; grind
  | succ A ih =>
    have h1 := ev_tab_add B (fun j => sumT A fun i => w i * T (i * B + j)) (fun j => w A * T (A * B + j)) x
    rw [ih, ev_tab_smul B (w A) (fun j => T (A * B + j)) x] at h1
    exact h1
end
end Go.Proofs.YteceghbjjnknbaaGreat
