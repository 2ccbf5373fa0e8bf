/- The walk of the law PolyRoots. -/
import Derived.Test.YtehgeiaglddabaaLv1
import Derived.Test.YtehgeiaglddabaaDeg
import Derived.Test.YtehgeiaglddabaaEval
import Derived.Test.YtehgeiaglddabaaArg
set_option linter.unusedVariables false
namespace Go.Proofs.Ytehgeiaglddabaa
open Go.RowKit Zp

def RootsRel (p : Nat) [NeZero p] (ys xs : List Int) (w : World) (i : Value) (wr : World) : Prop := ∃ k : Nat, k ≤ xs.length ∧ i = vi k ∧ (∀ x ∈ (els p xs).take k, ev (els p ys) x = 0) ∧ Below w.heap.size w wr

theorem ev123 : fv (ev (els 17 [1, 2, 3]) (el 17 1)) = 6 := by decide

/-- the closed fact ahead of the law -/
theorem roots_lives (w : World) (b : Nat) (F : Fld w w.heap.size b 17) : Calls Try.prog 19 #[.pointer (some ⟨b, 0, none⟩), .slice (some ⟨w.heap.size, 0, none⟩) 3 3, vi 1] (w.alloc (.cells #[vi 1, vi 2, vi 3] 3)) fun e w' => e = .returned (vi 6) ∧ Below w.heap.size w w' := by
  have hB := Blk.new w 3 #[vi 1, vi 2, vi 3]
  have hs : SL (w.alloc (.cells #[vi 1, vi 2, vi 3] 3)) (some ⟨w.heap.size, 0, none⟩) [1, 2, 3] := by
    refine ⟨rfl, fun _ => ⟨_, rfl, by simp, fun j u hu => ?_⟩⟩
    have e : (⟨w.heap.size, 0, none⟩ : Addr).add j = ⟨w.heap.size, j, none⟩ := by simp [Addr.add]; intro h; exact h.symm
    rw [e, hB.cell]
    rw [← hu]
    match j with
    | 0 | 1 | 2 => rfl
    | j + 3 => rfl
  have h := eval_any 17 w.heap.size b (some ⟨w.heap.size, 0, none⟩) 3 [1, 2, 3] (by decide) (by decide) 1 (by constructor <;> omega) _ (F.alloc _) hs
  rw [ev123] at h
  exact h.mono fun e w' ⟨he, hb⟩ => ⟨he, ((Below.refl _ _).alloc (Nat.le_refl _) _).trans (hb.mono (by simp))⟩

set_option maxRecDepth 100000 in
set_option maxHeartbeats 4000000 in
theorem roots_walk (w : World) (p : Int) (hp : I64 p) (A : Option Addr) (n c : Nat) (ys : List Int) (ha : ArgS w A n c ys) (X : Option Addr) (m d : Nat) (xs : List Int) (hx : ArgS w X m d xs) :
    Calls Try.prog 5 #[vi p, .slice A n c, .slice X m d] w fun e w' => SaysW (.bool true) w e w' := by
  obtain rfl := ha.len
  obtain rfl := hx.len
  have hm1 := hx.r8
  by_cases hF : HasField p
  · obtain ⟨h3, hm, hpr⟩ := hF
    obtain ⟨q, rfl⟩ := Int.eq_ofNat_of_zero_le (a := p) (by omega)
    rw [Int.toNat_natCast] at hpr
    haveI := hpr.ne
    have hp2 : q ≤ 2147483647 := by omega
    have hn := fun w => new_prime q w (by omega) (by omega) hpr
    have HN := Lib.hid hn
    clear hn hm h3
    go_enter Try.func5, Try.ntmps5
    go_wp2_with fail
    refine (lives1_any _).mono ?_
    rintro e w1 ⟨b0, rfl, F0, hbel0⟩
    go_wp2_with fail
    refine (roots_lives _ _ F0).mono ?_
    rintro e w2 ⟨rfl, hbel1⟩
    have hbel2 := hbel0.trans (hbel1.mono hbel0.size)
    clear F0 hbel0 hbel1
    go_wp2_with fail
    refine (HN.out _).mono ?_
    rintro e w3 ⟨b, rfl, F, hbel3, _⟩
    have hbel := hbel2.trans (hbel3.mono hbel2.size)
    clear hbel2 hbel3
    have hc := F.c0
    go_wp2_with fail
    refine (degree_any q hp2 b A c ys ha.i64 ha.r8 _ hc (ha.sl.below hbel)).mono ?_
    rintro e w' ⟨rfl, rfl⟩
    obtain ⟨D, hD⟩ : ∃ D, D = degL (els q ys) := ⟨_, rfl⟩
    rw [← hD]
    have HD := Lib.hid hD
    clear hD
    go_wp2_with fail
    refine (unlike_any q hp2 X d xs hx.i64 hx.r8 _ (hx.sl.below hbel)).mono ?_
    rintro e w4 ⟨rfl, hbel4⟩
    have F4 := F.below hbel4 (Nat.le_refl _)
    have hb4 := hbel.trans (hbel4.mono hbel.size)
    clear hbel hbel4 F hc
    by_cases hD0 : D < 0
    · have t1 : decide (D < 0) = true := by simpa using hD0
      go_wp2
      go_ret
      exact ⟨rfl, hb4⟩
    · have t1 : decide (D < 0) = false := by simpa using hD0
      by_cases hnd : (els q xs).Nodup
      · have t2 : ndB (els q xs) = true := ndB_true hnd
        by_cases hle : (xs.length : Int) ≤ D
        · have t3 : decide ((xs.length : Int) ≤ D) = true := by simpa using hle
          have HND := Lib.hid hnd
          clear hnd
          go_wp2
          go_ret
          exact ⟨rfl, hb4⟩
        · have t3 : decide ((xs.length : Int) ≤ D) = false := by simpa using hle
          have HND := Lib.hid hnd
          clear hnd
          go_wp2
          go_loopw [8, 13] (fun _ i wr => RootsRel q ys xs w4 i wr) (fun _ i _ => xs.length - (intOf i).toNat)
          case atStart => exact ⟨0, Nat.zero_le _, rfl, by simp, Below.refl _ _⟩
          case round =>
            obtain ⟨k, hk, rfl, hz, hb⟩ := hrel
            have hbw := hb4.trans (hb.mono hb4.size)
            have HZ := Lib.hid hz
            clear hz
            by_cases hlt : k < xs.length
            · obtain ⟨ad, rfl, hab, hcell⟩ := (hx.sl.below hbw).at_ hlt
              have hI := hx.i64 _ (List.getElem_mem hlt)
              obtain ⟨x, hxk⟩ : ∃ x, x = xs[k] := ⟨_, rfl⟩
              rw [← hxk] at hI hcell
              have hxe : (els q xs)[k]? = some (el q x) := by rw [List.getElem?_map, List.getElem?_eq_getElem hlt, ← hxk]; rfl
              have HX := Lib.hid hxe
              clear hxk hxe
              have hys := ha.sl.below hbw
              have hyr := ha.r8
              have hyi := ha.i64
              have hFr := F4.below hb (by have := F4.le; omega)
              by_cases h0 : ev (els q ys) (el q x) = 0
              · have t4 : (fv (ev (els q ys) (el q x)) != 0) = false := by rw [h0]; rfl
                have hz2 : ∀ y ∈ (els q xs).take (k + 1), ev (els q ys) y = 0 := by
                  intro y hy
                  rw [List.take_add_one, HX.out, List.mem_append] at hy
                  rcases hy with hy | hy
                  · exact HZ.out y hy
                  · simp at hy; rw [hy]; exact h0
                have HZ2 := Lib.hid hz2
                clear hz2 h0
                go_wp2_with fail
                refine (eval_any q _ b A c ys hyi hyr x hI _ hFr hys).mono ?_
                rintro e w5 ⟨rfl, hb5⟩
                have hb6 := hb.trans (hb5.mono hb.size)
                go_wp2
                go_roundw
                case rel => exact ⟨k + 1, by omega, by go_num, HZ2.out, hb6⟩
                case measure => simp [intOf]; omega
              · have t4 : (fv (ev (els q ys) (el q x)) != 0) = true := by rw [bne_iff_ne]; exact fun h => h0 (fv_eq_zero.1 h)
                have H0 := Lib.hid h0
                clear h0
                go_wp2_with fail
                refine (eval_any q _ b A c ys hyi hyr x hI _ hFr hys).mono ?_
                rintro e w5 ⟨rfl, hb5⟩
                have hb6 := hb.trans (hb5.mono hb.size)
                go_wp2
                go_ret
                exact ⟨rfl, hb4.trans (hb6.mono hb4.size)⟩
            · exfalso
              obtain rfl : k = xs.length := by omega
              have hz := HZ.out
              rw [List.take_of_length_le (by simp)] at hz
              have h1 : 0 < (trimL (els q ys)).length := by have := HD.out; unfold degL at this; omega
              have := roots_lt hpr h1 HND.out hz
              have := HD.out
              unfold degL at this
              simp at *
              omega
      · have t2 : ndB (els q xs) = false := ndB_false hnd
        have HND := Lib.hid hnd
        clear hnd
        go_wp2
        go_ret
        exact ⟨rfl, hb4⟩
  · have hn := fun w => new_none p w hF
    have HN := Lib.hid hn
    clear hn hF
    go_enter Try.func5, Try.ntmps5
    go_wp2_with fail
    refine (lives1_any _).mono ?_
    rintro e w1 ⟨b0, rfl, F0, hbel0⟩
    go_wp2_with fail
    refine (roots_lives _ _ F0).mono ?_
    rintro e w2 ⟨rfl, hbel1⟩
    have hbel2 := hbel0.trans (hbel1.mono hbel0.size)
    go_wp2_with fail
    refine (HN.out _).mono ?_
    rintro e w3 ⟨rfl, rfl⟩
    go_wp2
    go_ret
    exact ⟨rfl, hbel2⟩
end Go.Proofs.Ytehgeiaglddabaa
