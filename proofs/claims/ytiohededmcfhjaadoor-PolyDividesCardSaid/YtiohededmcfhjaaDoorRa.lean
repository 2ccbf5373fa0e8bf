/- Walks of the reference's Of, All, Unlike. -/
import Derived.Test.YtiohededmcfhjaaDoorFw1
import Derived.Test.YtiohededmcfhjaaDoorMk
import Derived.Test.YtiohededmcfhjaaDoorPl
set_option linter.unusedVariables false
namespace Go.Proofs.YtiohededmcfhjaaDoor
open Go.RowKit Zp

set_option maxHeartbeats 400000 in
theorem rof_any (p : Nat) [NeZero p] (hp2 : p ≤ 2147483647) (n : Int) (hn : I64 n) (w : World) :
    Calls Tryd.prog 27 #[vi p, vi n] w fun e w' => e = .returned (vi (fv (el p n))) ∧ w = w' := by
  have hp := ppos (p := p)
  obtain ⟨hn1, hn2⟩ := hn
  have ht := tmod_emod n p hp
  have h1 := Int.emod_nonneg n (b := (p : Int)) (by omega)
  have h2 := Int.emod_lt_of_pos n (b := (p : Int)) (by omega)
  have b1 : -(p : Int) < n.tmod p := by rw [ht]; split <;> (try split) <;> omega
  have b2 : n.tmod p < p := by rw [ht]; split <;> (try split) <;> omega
  have H := Lib.hid ht
  clear ht
  go_enter Tryd.func27, Tryd.ntmps27
  go_wp2
  · go_ret
    have hlt : n.tmod p < 0 := by assumption
    have h := H.out
    refine ⟨ret_int ?_, rfl⟩
    rw [fv_el]
    rw [h] at hlt ⊢
    split at hlt <;> (try split at hlt) <;> simp_all <;> omega
  · go_ret
    have hge : 0 ≤ n.tmod p := by assumption
    have h := H.out
    refine ⟨ret_int ?_, rfl⟩
    rw [fv_el]
    rw [h] at hge ⊢
    split at hge <;> (try split at hge) <;> simp_all <;> omega

theorem map_take_succ {α β : Type} (f : α → β) (l : List α) (k : Nat) (hk : k < l.length) : (l.map f).take k ++ [f l[k]] = (l.map f).take (k + 1) := by
  rw [List.take_succ_eq_append_getElem (by simpa using hk)]; simp

def AllRel (p : Nat) [NeZero p] (xs : List Int) (w : World) (v i : Value) (wr : World) : Prop := ∃ k : Nat, k ≤ xs.length ∧ i = vi k ∧ Own wr w.heap.size v ((fvs (els p xs)).take k) ∧ Below w.heap.size w wr

set_option maxHeartbeats 1000000 in
theorem rall_any (p : Nat) [NeZero p] (hp2 : p ≤ 2147483647) (A : Option Addr) (cap : Nat) (xs : List Int) (hxs : ∀ n ∈ xs, I64 n) (hreach : xs.length * 8 ≤ 140737488353280) (w : World) (hs : SL w A xs) :
    Calls Tryd.prog 36 #[vi p, .slice A xs.length cap] w fun e w' => Made (fvs (els p xs)) w e w' := by
  obtain ⟨len, hlen⟩ : ∃ len, len = xs.length := ⟨_, rfl⟩
  rw [← hlen]
  rw [← hlen] at hreach
  have HL := Lib.hid hlen
  clear hlen
  go_enter Tryd.func36, Tryd.ntmps36
  go_wp2
  go_loopw [5, 6, 7] (fun v i _ wr => AllRel p xs w v i wr) (fun _ i _ _ => len - (intOf i).toNat)
  case atStart => exact ⟨0, Nat.zero_le _, rfl, World.ownsRow_nil _ _ _ _, Below.refl _ _⟩
  case round =>
    obtain ⟨k, hk, rfl, hown, hb⟩ := hrel
    rw [← HL.out] at hk
    by_cases hlt : k < len
    · have hkx : k < xs.length := by rw [← HL.out]; exact hlt
      obtain ⟨ad, rfl, hab, hcell⟩ := (hs.below hb).at_ hkx
      have hI := hxs _ (List.getElem_mem hkx)
      obtain ⟨x, hx⟩ : ∃ x, x = xs[k] := ⟨_, rfl⟩
      rw [← hx] at hI hcell
      have HX := Lib.hid hx
      clear hx
      have hll : ((fvs (els p xs)).take k).length ≤ k := List.length_take_le _ _
      go_wp2_with (first | (go_at_call 27; refine (rof_any p hp2 x hI _).mono ?_; rintro e w' ⟨rfl, rfl⟩) | (at_builtin; refine wpList_app1 wr (fv (el p x)) rfl _ _ rfl w.heap.size _ _ rfl rfl hown (by omega) hb.size ?_; intro v' w1 hg))
      go_roundw
      case rel =>
        refine ⟨k + 1, by rw [← HL.out]; omega, by go_num, ?_, hg.below hb hown (Nat.le_refl _) hb.size⟩
        have h1 := hg.own
        have h2 := map_take_succ fv (els p xs) k (by simpa using hkx)
        rw [List.getElem_map, ← HX.out] at h2
        rw [← h2]; exact h1
      case measure => simp [intOf]; omega
    · obtain rfl : k = len := by omega
      go_wp2
      go_ret
      rw [List.take_of_length_le (by simp; rw [HL.out]; exact Nat.le_refl _)] at hown
      exact ⟨_, rfl, hown, hb⟩

def UnOut (p : Nat) [NeZero p] (xs : List Int) (i : Value) : Prop := ∃ n : Nat, n ≤ xs.length ∧ i = vi n ∧ ∀ (a c : Nat) (ha : a < n) (hc : c < a) (h : a < (els p xs).length), (els p xs)[a] ≠ (els p xs)[c]'(by omega)
def UnIn (p : Nat) [NeZero p] (xs : List Int) (n : Nat) (i : Value) : Prop := ∃ k : Nat, k ≤ n ∧ i = vi k ∧ ∀ (c : Nat) (hc : c < k) (h : n < (els p xs).length) (h' : c < (els p xs).length), (els p xs)[n] ≠ (els p xs)[c]

set_option maxHeartbeats 1000000 in
theorem unlike_any (p : Nat) [NeZero p] (hp2 : p ≤ 2147483647) (A : Option Addr) (cap : Nat) (xs : List Int) (hxs : ∀ n ∈ xs, I64 n) (hreach : xs.length * 8 ≤ 140737488351232) (w : World) (hs : SL w A xs) :
    Calls Tryd.prog 13 #[vi p, .slice A xs.length cap] w fun e w' => SaysW (.bool (ndB (els p xs))) w e w' := by
  have hall := rall_any p hp2 A cap xs hxs (by omega) w hs
  have HA := Lib.hid hall
  clear hall
  go_enter Tryd.func13, Tryd.ntmps13
  go_wp2_with fail
  refine (HA.out).mono ?_
  rintro e w1 ⟨v, rfl, hown, hb⟩
  obtain ⟨A1, c1, rfl, hlc, hcm, hgd, hsl⟩ := hown.shape
  obtain ⟨len, hlen⟩ : ∃ len, len = xs.length := ⟨_, rfl⟩
  have hl1 : (fvs (els p xs)).length = len := by simp [hlen]
  rw [hl1]
  rw [← hlen] at hreach
  have HL := Lib.hid hlen
  have HL1 := Lib.hid hl1
  clear hlen hl1 hgd
  go_wp2
  go_loopw [6, 7] (fun i _ wr => UnOut p xs i ∧ SL wr A1 (fvs (els p xs)) ∧ Below w.heap.size w wr) (fun i _ _ => len - (intOf i).toNat)
  case atStart => exact ⟨⟨0, Nat.zero_le _, rfl, fun a c ha => absurd ha (by omega)⟩, hsl, hb⟩
  case round =>
    obtain ⟨⟨n, hn, rfl, hno⟩, hsl1, hb1⟩ := hrel
    rw [← HL.out] at hn
    have HNO := Lib.hid hno
    clear hno
    obtain ⟨W0, hW0⟩ : ∃ W0 : World, W0 = wr := ⟨_, rfl⟩
    subst hW0
    by_cases hlt : n < len
    · go_wp2
      go_loopw [7] (fun i wr => UnIn p xs n i ∧ SL wr A1 (fvs (els p xs)) ∧ Below w.heap.size w wr) (fun i _ => n - (intOf i).toNat)
      case atStart => exact ⟨⟨0, Nat.zero_le _, rfl, fun c hc => absurd hc (by omega)⟩, hsl1, hb1⟩
      case round =>
        obtain ⟨⟨k, hk, rfl, hno⟩, hsl2, hb2⟩ := hrel
        have HN2 := Lib.hid hno
        clear hno
        by_cases hlk : k < n
        · have hnl : n < (fvs (els p xs)).length := by rw [HL1.out]; exact hlt
          have hkl : k < (fvs (els p xs)).length := by rw [HL1.out]; omega
          obtain ⟨ad, rfl, hab, hc1⟩ := hsl2.at_ hnl
          obtain ⟨ad', he, _, hc2⟩ := hsl2.at_ hkl
          injection he with he
          subst he
          have i1 : (0 : Int) ≤ n := by omega
          have i2 : (n : Int) < len := by omega
          have i3 : (0 : Int) ≤ k := by omega
          have i4 : (k : Int) < len := by omega
          have hnl' : n < (els p xs).length := by simpa using hnl
          have hkl' : k < (els p xs).length := by simpa using hkl
          have e1 : (fvs (els p xs))[n] = fv (els p xs)[n] := by simp
          have e2 : (fvs (els p xs))[k] = fv (els p xs)[k] := by simp
          rw [e1] at hc1
          rw [e2] at hc2
          obtain ⟨x, hx⟩ : ∃ x, x = (els p xs)[n] := ⟨_, rfl⟩
          obtain ⟨y, hy⟩ : ∃ y, y = (els p xs)[k] := ⟨_, rfl⟩
          rw [← hx] at hc1
          rw [← hy] at hc2
          by_cases hxy : x = y
          · have t1 : (fv x == fv y) = true := by rw [hxy]; simp
            have hnd := not_nodup (l := els p xs) (i := n) (k := k) hnl' hlk (by rw [← hx, ← hy]; exact hxy)
            have hnb := ndB_false hnd
            have HB := Lib.hid hnb
            clear hnb hnd hx hy hxy e1 e2
            go_wp2
            go_quiet (fail)
            go_wp2
            go_ret
            exact ⟨ret_bool HB.out.symm, below_drewN hb2 _⟩
          · have t1 : (fv x == fv y) = false := by rw [beq_eq_false_iff_ne]; exact fun h => hxy (fv_inj h)
            have hno2 : ∀ (c : Nat) (hc : c < k + 1) (h : n < (els p xs).length) (h' : c < (els p xs).length), (els p xs)[n] ≠ (els p xs)[c] := fun c hc h h' => by
              by_cases hck : c = k
              · subst hck; rw [← hx, ← hy]; exact hxy
              · exact HN2.out c (by omega) h h'
            have H3 := Lib.hid hno2
            clear hno2 hx hy hxy e1 e2
            go_wp2
            go_quiet (fail)
            go_wp2
            go_roundw
            case rel => exact ⟨⟨k + 1, by omega, by go_num, H3.out⟩, hsl2, below_drewN hb2 _⟩
            case measure => simp [intOf]; omega
        · obtain rfl : k = n := by omega
          go_wp2
          go_roundw
          case rel =>
            refine ⟨⟨k + 1, by rw [← HL.out]; omega, by go_num, fun a c ha hc h => ?_⟩, hsl2, hb2⟩
            by_cases hak : a = k
            · subst hak; exact HN2.out c hc h (by omega)
            · exact HNO.out a c (by omega) hc h
          case measure => simp [intOf]; omega
    · obtain rfl : n = len := by omega
      have hnb := ndB_true (l := els p xs) (nodup_of_lt (fun i k hi hk => HNO.out i k (by rw [HL.out]; simpa using hi) hk hi))
      have HB := Lib.hid hnb
      clear hnb
      go_wp2
      go_ret
      exact ⟨ret_bool HB.out.symm, hb1⟩
end Go.Proofs.YtiohededmcfhjaaDoor
