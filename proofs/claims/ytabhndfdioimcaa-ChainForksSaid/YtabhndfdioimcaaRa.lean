/- Walks of the reference's Of, All, Unlike. -/
import Derived.Test.YtabhndfdioimcaaFw1
import Derived.Test.YtabhndfdioimcaaMk
import Derived.Test.YtabhndfdioimcaaPl
set_option linter.unusedVariables false
namespace Go.Proofs.Ytabhndfdioimcaa
open Go.RowKit Zp

set_option maxHeartbeats 400000 in
theorem rof_any (p : Nat) [NeZero p] (hp2 : p ≤ 2147483647) (n : Int) (hn : I64 n) (w : World) :
    Calls Try.prog 34 #[vi p, vi n] w fun e w' => e = .returned (vi (fv (el p n))) ∧ w = w' := by
  have hp := ppos (p := p)
  obtain ⟨hn1, hn2⟩ := hn
  have ht := tmod_emod n p hp
  have h1 := Int.emod_nonneg n (b := (p : Int)) (by omega)
  have h2 := Int.emod_lt_of_pos n (b := (p : Int)) (by omega)
  have b1 : -(p : Int) < n.tmod p := by rw [ht]; split <;> (try split) <;> omega
  have b2 : n.tmod p < p := by rw [ht]; split <;> (try split) <;> omega
  have H := Lib.hid ht
  clear ht
  go_enter Try.func34, Try.ntmps34
  go_wp2
  · go_ret
    have hlt : n.tmod p < 0 := by assumption
    have h := H.out
    refine ⟨ret_int ?_, rfl⟩
    rw [fv_el]
    rw [h] at hlt ⊢
    split at hlt <;> (try split at hlt) <;> simp_all <;> omega
  · go_ret
    have hge : 0 ≤ n.tmod p := by assumption
    have h := H.out
    refine ⟨ret_int ?_, rfl⟩
    rw [fv_el]
    rw [h] at hge ⊢
    split at hge <;> (try split at hge) <;> simp_all <;> omega

theorem map_take_succ {α β : Type} (f : α → β) (l : List α) (k : Nat) (hk : k < l.length) : (l.map f).take k ++ [f l[k]] = (l.map f).take (k + 1) := by
  rw [List.take_succ_eq_append_getElem (by simpa using hk)]; simp

def AllRel (p : Nat) [NeZero p] (xs : List Int) (w : World) (v i : Value) (wr : World) : Prop := ∃ k : Nat, k ≤ xs.length ∧ i = vi k ∧ Own wr w.heap.size v ((fvs (els p xs)).take k) ∧ Below w.heap.size w wr

set_option maxHeartbeats 1000000 in
theorem rall_any (p : Nat) [NeZero p] (hp2 : p ≤ 2147483647) (A : Option Addr) (cap : Nat) (xs : List Int) (hxs : ∀ n ∈ xs, I64 n) (hreach : xs.length * 8 ≤ 140737488351232) (w : World) (hs : SL w A xs) :
    Calls Try.prog 13 #[vi p, .slice A xs.length cap] w fun e w' => Made (fvs (els p xs)) w e w' := by
  obtain ⟨len, hlen⟩ : ∃ len, len = xs.length := ⟨_, rfl⟩
  rw [← hlen]
  rw [← hlen] at hreach
  have HL := Lib.hid hlen
  clear hlen
  go_enter Try.func13, Try.ntmps13
  go_wp2
  go_loopw [5, 6, 7] (fun v i _ wr => AllRel p xs w v i wr) (fun _ i _ _ => len - (intOf i).toNat)
  case atStart => exact ⟨0, Nat.zero_le _, rfl, World.ownsRow_nil _ _ _ _, Below.refl _ _⟩
  case round =>
    obtain ⟨k, hk, rfl, hown, hb⟩ := hrel
    rw [← HL.out] at hk
    by_cases hlt : k < len
    · have hkx : k < xs.length := by rw [← HL.out]; exact hlt
      obtain ⟨ad, rfl, hab, hcell⟩ := (hs.below hb).at_ hkx
      have hI := hxs _ (List.getElem_mem hkx)
      obtain ⟨x, hx⟩ : ∃ x, x = xs[k] := ⟨_, rfl⟩
      rw [← hx] at hI hcell
      have HX := Lib.hid hx
      clear hx
      have hll : ((fvs (els p xs)).take k).length ≤ k := List.length_take_le _ _
      go_wp2_with (first | (go_at_call 34; refine (rof_any p hp2 x hI _).mono ?_; rintro e w' ⟨rfl, rfl⟩) | (at_builtin; refine wpList_app1 wr (fv (el p x)) rfl _ _ rfl w.heap.size _ _ rfl rfl hown (by omega) hb.size ?_; intro v' w1 hg))
      go_roundw
      case rel =>
        refine ⟨k + 1, by rw [← HL.out]; omega, by go_num, ?_, hg.below hb hown (Nat.le_refl _) hb.size⟩
        have h1 := hg.own
        have h2 := map_take_succ fv (els p xs) k (by simpa using hkx)
        rw [List.getElem_map, ← HX.out] at h2
        rw [← h2]; exact h1
      case measure => simp [intOf]; omega
    · obtain rfl : k = len := by omega
      go_wp2
      go_ret
      rw [List.take_of_length_le (by simp; rw [HL.out]; exact Nat.le_refl _)] at hown
      exact ⟨_, rfl, hown, hb⟩

end Go.Proofs.Ytabhndfdioimcaa
