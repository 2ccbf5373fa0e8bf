/- Walk: sums.Extend. -/
import Derived.Test.YtkhkoeibigpdnaaDoorSm2
import Derived.Test.YtkhkoeibigpdnaaDoorCode
set_option linter.unusedVariables false
namespace Go.Proofs.YtkhkoeibigpdnaaDoor
open Go.RowKit Zp

abbrev NoInt (k : Int) : Ending := .returned (.tuple #[vi 0, .iface 107 (.int .i64 k)])
theorem extend_no (b : Nat) (A B : Option Addr) (n cap m cb : Nat) (hn : n < 9223372036854775808) (hm : m < 9223372036854775808) (h : ¬ Cube n m) (w : World) :
    Calls Tryd.prog 42 #[.pointer (some ⟨b, 0, none⟩), .slice A n cap, .slice B m cb] w fun e w' => e = NoInt 2 ∧ w = w' := by
  by_cases hi : IsCube n
  · obtain ⟨v, hv⟩ := hi
    have hvv := Lib.hid (variables_yes A n cap v hv w)
    have hne : ¬ m = v := fun e => h (e ▸ hv)
    have t1 : ((m : Int) != (v : Int)) = true := by rw [bne_iff_ne]; omega
    clear hv h hne
    go_enter Tryd.func42, Tryd.ntmps42
    go_wp2_with fail
    refine (hvv.out).mono ?_
    rintro e w' ⟨rfl, rfl⟩
    go_wp2
    go_ret2
    exact ⟨rfl, rfl⟩
  · have hvv := Lib.hid (variables_no A n cap hn hi w)
    clear hi h
    go_enter Tryd.func42, Tryd.ntmps42
    go_wp2_with fail
    refine (hvv.out).mono ?_
    rintro e w' ⟨rfl, rfl⟩
    go_wp2
    go_ret2
    exact ⟨rfl, rfl⟩

/-- the table that is left when k are let be elements -/
def ExtRel (p : Nat) [NeZero p] (v : Nat) (T : List (Fin p)) (rs : List (Fin p)) (w : World) (t i : Value) (wr : World) : Prop :=
  ∃ (k : Nat) (A : Option Addr) (n c : Nat) (ys : List Int), k ≤ v ∧ i = vi k ∧ t = .slice A n c ∧ Cube n (v - k) ∧ ys.length = n ∧ (∀ y ∈ ys, I64 y) ∧ SL wr A ys ∧ Below w.heap.size w wr ∧ extL (els p ys) (rs.drop k) = T

/-- an int, no error -/
def GivesI (x : Int) (w : World) (e : Ending) (w' : World) : Prop := e = .returned (.tuple #[vi x, .nilIface]) ∧ Below w.heap.size w w'

set_option maxRecDepth 100000 in
set_option maxHeartbeats 1000000 in
theorem extend_any (p S b : Nat) [NeZero p] (n v : Nat) (hv : Cube n v) (A : Option Addr) (cap : Nat) (xs : List Int) (hml : xs.length = n) (hxs : ∀ x ∈ xs, I64 x) (B : Option Addr) (cb : Nat) (rs : List Int) (hrl : rs.length = v) (hrs : ∀ x ∈ rs, I64 x) (w : World) (F : Fld w S b p) (hs : SL w A xs) (hsr : SL w B rs) :
    Calls Tryd.prog 42 #[.pointer (some ⟨b, 0, none⟩), .slice A n cap, .slice B v cb] w fun e w' => GivesI (fv (co (extL (els p xs) (els p rs)) 0)) w e w' := by
  have hp1 := F.two
  have hp2 := F.max
  have hbS := F.le
  have hcb := F.c0
  have hbl : b < w.heap.size := block_lt_of_cell hcb
  have hvv := Lib.hid (variables_yes A n cap v hv w)
  have hv12 := hv.1
  have hn0 := hv.le
  have HRL := Lib.hid hrl
  obtain ⟨T, hT⟩ : ∃ T, T = extL (els p xs) (els p rs) := ⟨_, rfl⟩
  rw [← hT]
  have hrel0 : ExtRel p v T (els p rs) w (.slice A n cap) (vi (0 : Nat)) w := ⟨0, A, n, cap, xs, Nat.zero_le _, rfl, rfl, hv, hml, hxs, hs, Below.refl _ _, hT.symm⟩
  have t1 : ((v : Int) != (v : Int)) = false := by simp
  clear hv hml hrl hT
  go_enter Tryd.func42, Tryd.ntmps42
  go_wp2_with fail
  refine (hvv.out).mono ?_
  rintro e w' ⟨rfl, rfl⟩
  go_wp2
  go_loopw [1, 24] (fun t i wr => ExtRel p v T (els p rs) w t i wr) (fun _ i _ => v - (intOf i).toNat)
  case atStart => exact hrel0
  case round =>
    obtain ⟨k, A', n', c', ys, hk, rfl, rfl, hcu, hyl, hys, hsy, hb, hT⟩ := hrel
    have hcR : wr.cell? ⟨b, 0, none⟩ = some (vi p) := (hb.cell (p := ⟨b, 0, none⟩) hbl).trans hcb
    have FR := F.below hb hbS
    by_cases hkv : k < v
    · have hkr : k < rs.length := by rw [HRL.out]; exact hkv
      obtain ⟨ad, rfl, _, hc1⟩ := (hsr.below hb).at_ hkr
      have ir := hrs _ (List.getElem_mem hkr)
      have hd : (els p rs).drop k = el p rs[k] :: (els p rs).drop (k + 1) := by
        rw [List.drop_eq_getElem_cons (by simpa using hkr)]; simp
      obtain ⟨r, hr⟩ : ∃ r, r = rs[k] := ⟨_, rfl⟩
      rw [← hr] at hc1 ir hd
      have hcu' : Cube n' (v - (k + 1) + 1) := by rw [show v - (k + 1) + 1 = v - k by omega]; exact hcu
      obtain ⟨hch, hnh⟩ := hcu'.half rfl
      have hnle := hcu.le
      obtain ⟨h, hh⟩ : ∃ h, h = n' / 2 := ⟨_, rfl⟩
      rw [← hh] at hch hnh
      rw [hd, extL, List.length_map, hyl, ← hh] at hT
      have hfx := Lib.hid (fixed_any p S b n' h (.inl hnh) (by omega) A' c' ys hyl hys r ir wr FR hsy)
      have HT := Lib.hid hT
      clear hT hd hr hh hnh hcu hcu' hyl
      go_wp2_with fail
      refine (hfx.out).mono ?_
      rintro e w1 ⟨v1, rfl, hown, hb1⟩
      obtain ⟨A1, n1, c1, rfl, hl1, hnc, _, hs1⟩ := hown.shapeN
      rw [List.length_map, fixL_length] at hl1
      subst hl1
      clear hown
      go_wp2
      go_roundw
      case rel => exact ⟨k + 1, A1, _, c1, _, by omega, by go_num, rfl, hch, by rw [List.length_map, fixL_length], i64_fvs _ hp2, hs1, hb.trans (hb1.mono hb.size), by rw [els_fvs]; exact HT.out⟩
      case measure => simp [intOf]; omega
    · obtain rfl : k = v := by omega
      have hnp := hcu.pos
      have hk0 : 0 < ys.length := by rw [hyl]; exact hnp
      obtain ⟨ad, rfl, _, hc1⟩ := hsy.at_ hk0
      have iy := hys _ (List.getElem_mem hk0)
      have hx : el p ys[0] = co T 0 := by
        rw [← hT, List.drop_of_length_le (by rw [List.length_map, HRL.out]; exact Nat.le_refl _), extL, co_of_lt (by simpa using hk0)]; simp
      obtain ⟨y, hy⟩ : ∃ y, y = ys[0] := ⟨_, rfl⟩
      rw [← hy] at hc1 iy hx
      have HX := Lib.hid hx
      have hc3 : wr.cell? ad = some (vi y) := by
        have e : ad.add 0 = ad := by cases ad; simp [Addr.add]
        rw [← e]; exact hc1
      clear hx hy hyl hT
      go_wp2_with fail
      refine (of_el p hp2 b y iy wr hcR).mono ?_
      rintro e w' ⟨rfl, rfl⟩
      go_wp2
      go_ret2
      exact ⟨by rw [HX.out]; rfl, hb⟩
end Go.Proofs.YtkhkoeibigpdnaaDoor
