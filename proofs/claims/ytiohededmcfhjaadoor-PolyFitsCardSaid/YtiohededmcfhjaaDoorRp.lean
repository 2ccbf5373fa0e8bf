/- Walks of the reference's polynomials: Degree, Trim, At, Plus, Scaled, Times, Eval. -/
import Derived.Test.YtiohededmcfhjaaDoorRb
import Derived.Test.YtiohededmcfhjaaDoorDeg
import Derived.Test.YtiohededmcfhjaaDoorInts
import Derived.Test.YtiohededmcfhjaaDoorAppA
import Derived.Test.YtiohededmcfhjaaDoorFt
import Derived.Test.YtiohededmcfhjaaDoorDm
set_option linter.unusedVariables false
namespace Go.Proofs.YtiohededmcfhjaaDoor
open Go.RowKit Zp

theorem i64_fvsR {p : Nat} (l : List (Fin p)) (hp2 : p ≤ 2147483647) : ∀ n ∈ fvs l, I64 n := fun n hn => by
  obtain ⟨x, _, rfl⟩ := List.mem_map.1 hn
  exact i64_fv x hp2
theorem sl_lit' (w : World) (xs : List Int) : SL (w.alloc (.cells (xs.map vi).toArray 3)) (some ⟨w.heap.size, 0, none⟩) xs := by
  refine ⟨by simp, fun _ => ⟨_, rfl, by simp, fun j u hu => ?_⟩⟩
  have e : (⟨w.heap.size, 0, none⟩ : Addr).add j = ⟨w.heap.size, j, none⟩ := by simp [Addr.add]; intro h; exact h.symm
  rw [e, (Blk.new w 3 (xs.map vi).toArray).cell]
  simpa using hu
theorem SL.take {w : World} {A : Option Addr} {xs : List Int} (h : SL w A xs) (k : Nat) : SL w A (xs.take k) := by
  refine ⟨by simp, fun hn => ?_⟩
  have hl : (xs.take k).length = min k xs.length := List.length_take
  obtain ⟨ad, e, hb, hc⟩ := h.2 (by omega)
  refine ⟨ad, e, hb, fun j u hu => hc j u ?_⟩
  rw [List.map_take, List.getElem?_take] at hu
  split at hu
  · exact hu
  · cases hu

theorem rall_n (p : Nat) [NeZero p] (hp2 : p ≤ 2147483647) (A : Option Addr) (n cap : Nat) (xs : List Int) (hml : xs.length = n) (hxs : ∀ n ∈ xs, I64 n) (hreach : n * 8 ≤ 140737488353280) (w : World) (hs : SL w A xs) :
    Calls Tryd.prog 36 #[vi p, .slice A n cap] w fun e w' => Made (fvs (els p xs)) w e w' := by
  subst hml
  exact rall_any p hp2 A cap xs hxs hreach w hs

set_option maxHeartbeats 1000000 in
theorem rdegree_n (p : Nat) [NeZero p] (hp2 : p ≤ 2147483647) (A : Option Addr) (len cap : Nat) (xs : List Int) (hml : xs.length = len) (hxs : ∀ n ∈ xs, I64 n) (hreach : len * 8 ≤ 281474976710656) (w : World) (hs : SL w A xs) :
    Calls Tryd.prog 8 #[vi p, .slice A len cap] w fun e w' => e = .returned (vi (degL (els p xs))) ∧ w = w' := by
  have HL := Lib.hid hml.symm
  clear hml
  go_enter Tryd.func8, Tryd.ntmps8
  go_wp2
  go_loop [5, 6] (fun i _ => DegRel p xs i) (fun i _ => (intOf i + 1).toNat)
  case atStart => exact ⟨len, by rw [HL.out]; exact Nat.le_refl _, rfl, by rw [HL.out]; exact ZeroFrom.start p xs⟩
  case round =>
    obtain ⟨k, hk, rfl, hz⟩ := hrel
    rw [← HL.out] at hk
    have HZ := Lib.hid hz
    clear hz
    by_cases h0 : k = 0
    · subst h0
      have t1 : decide ((0 : Int) ≤ (((0 : Nat) : Int) - 1)) = false := by simp
      go_wp2
      go_ret
      exact ⟨ret_int (HZ.out.done (.inl rfl)).symm, rfl⟩
    · have i0 : (0 : Int) ≤ (k : Int) - 1 := by omega
      have i1 : (1 : Int) ≤ (k : Int) := by omega
      have i2 : ((k : Int) - 1).toNat = k - 1 := by omega
      have hkx : k - 1 < xs.length := by rw [← HL.out]; omega
      obtain ⟨ad, rfl, hab, hcell⟩ := hs.at_ hkx
      have hI := hxs _ (List.getElem_mem hkx)
      have hco : co (els p xs) (k - 1) = el p xs[k - 1] := by rw [co_of_lt (by simpa using hkx)]; simp
      obtain ⟨x, hx⟩ : ∃ x, x = xs[k - 1] := ⟨_, rfl⟩
      rw [← hx] at hI hcell hco
      have hcell' : w.cell? (ad.add ((k : Int) - 1).toNat) = some (vi x) := by rw [i2]; exact hcell
      have HC := Lib.hid hco
      clear hx hco i2
      by_cases hx0 : el p x = 0
      · have t1 : (fv (el p x) != 0) = false := by rw [hx0]; rfl
        have hz2 : ZeroFrom p xs (k - 1) := ZeroFrom.next (by rw [show k - 1 + 1 = k from by omega]; exact HZ.out) (by rw [HC.out]; exact hx0)
        have HZ2 := Lib.hid hz2
        clear hz2 hx0
        go_wp2_with (go_at_call 27; refine (rof_any p hp2 x hI _).mono ?_; rintro e w' ⟨rfl, rfl⟩)
        go_round
        case rel => exact ⟨k - 1, by rw [← HL.out]; omega, by congr 1; omega, HZ2.out⟩
        case measure => simp [intOf]; omega
      · have t1 : (fv (el p x) != 0) = true := by rw [bne_iff_ne]; exact fun h => hx0 (fv_eq_zero.1 h)
        have hd := HZ.out.done (.inr (by rw [HC.out]; exact hx0))
        have HD := Lib.hid hd
        clear hd hx0
        go_wp2_with (go_at_call 27; refine (rof_any p hp2 x hI _).mono ?_; rintro e w' ⟨rfl, rfl⟩)
        go_ret
        exact ⟨ret_int HD.out.symm, rfl⟩

theorem rtrim_n (p : Nat) [NeZero p] (hp2 : p ≤ 2147483647) (A : Option Addr) (len cap : Nat) (xs : List Int) (hml : xs.length = len) (hxs : ∀ n ∈ xs, I64 n) (hreach : len * 8 ≤ 140737488351232) (hcap : len ≤ cap) (w : World) (hs : SL w A xs) :
    Calls Tryd.prog 18 #[vi p, .slice A len cap] w fun e w' => Made (fvs (trimL (els p xs))) w e w' := by
  have hdeg := rdegree_n p hp2 A len cap xs hml hxs (by omega) w hs
  obtain ⟨n, hn⟩ : ∃ n, n = (trimL (els p xs)).length := ⟨_, rfl⟩
  have hnl : n ≤ len := by rw [hn, ← hml]; have := trimL_length_le (els p xs); simpa using this
  have hd : degL (els p xs) = (n : Int) - 1 := by unfold degL; rw [hn]
  rw [hd] at hdeg
  have hall := rall_n p hp2 A n cap (xs.take n) (by rw [List.length_take, hml]; omega) (fun x hx => hxs x (List.mem_of_mem_take hx)) (by omega) w (hs.take n)
  have he : els p (xs.take n) = trimL (els p xs) := by
    conv => rhs; rw [trimL_eq_take, ← hn]
    unfold els; rw [List.map_take]
  rw [he] at hall
  have HDEG := Lib.hid hdeg
  have HALL := Lib.hid hall
  have i1 : (0 : Int) ≤ (n : Int) := by omega
  have i2 : (n : Int) ≤ cap := by omega
  clear hn hd he hdeg hall hml
  go_enter Tryd.func18, Tryd.ntmps18
  go_wp2_with fail
  refine (HDEG.out).mono ?_
  rintro e w' ⟨rfl, rfl⟩
  go_wp2_with fail
  refine (HALL.out).mono ?_
  rintro e w1 ⟨v, rfl, hown, hb⟩
  go_wp2
  go_ret
  exact ⟨v, rfl, hown, hb⟩

theorem ref_at_n (A : Option Addr) (n c : Nat) (xs : List Int) (hn : xs.length = n) (hx : n ≤ 9223372036854775807) (i : Int) (hi : I64 i) (w : World) (hs : SL w A xs) :
    Calls Tryd.prog 42 #[.slice A n c, vi i] w fun e w' => e = .returned (vi (atI xs i)) ∧ w = w' := by
  subst hn
  exact at_any A c xs hx i hi w hs
theorem atI_getD (xs : List Int) (k : Nat) : atI xs (k : Int) = xs.getD k 0 := by
  rw [atI, if_pos (by omega), Int.toNat_natCast]
theorem i64_getD' {xs : List Int} (h : ∀ n ∈ xs, I64 n) (k : Nat) : I64 (xs.getD k 0) := by
  rw [List.getD_eq_getElem?_getD]
  cases hx : xs[k]? with
  | none => constructor <;> decide
  | some x => exact h x (List.mem_of_getElem? hx)
end Go.Proofs.YtiohededmcfhjaaDoor
