/- Walks: sums.fixed, Fix, Extend. -/
import Derived.Test.YtkhkoeibigpdnaaDoorSm1
import Derived.Test.YtkhkoeibigpdnaaDoorFold
set_option linter.unusedVariables false
namespace Go.Proofs.YtkhkoeibigpdnaaDoor
open Go.RowKit Zp

set_option maxRecDepth 100000 in
set_option maxHeartbeats 1000000 in
theorem fixed_any (p S b : Nat) [NeZero p] (n h : Nat) (hn : n = 2 * h ∨ n = 2 * h + 1) (hn1 : n ≤ 65536) (A : Option Addr) (cap : Nat) (xs : List Int) (hml : xs.length = n) (hxs : ∀ x ∈ xs, I64 x) (r : Int) (hr : I64 r) (w : World) (F : Fld w S b p) (hs : SL w A xs) :
    Calls Tryd.prog 85 #[.pointer (some ⟨b, 0, none⟩), .slice A n cap, vi r] w fun e w' => Made (fvs (fixL h (els p xs) (el p r))) w e w' := by
  have hp1 := F.two
  have hp2 := F.max
  have hmk := make_ints0 h (by omega)
  have hbS := F.le
  have hcb := F.c0
  have hbl : b < w.heap.size := block_lt_of_cell hcb
  have HML := Lib.hid hml
  obtain ⟨l, hl⟩ : ∃ l, l = fixL h (els p xs) (el p r) := ⟨_, rfl⟩
  rw [← hl]
  have hll : l.length = h := by rw [hl, fixL_length]
  have HLL := Lib.hid hll
  have HL := Lib.hid hl
  have hh2 : 2 * h ≤ n := by omega
  have t2 : (n : Int).tdiv 2 = (h : Int) := by rw [Int.tdiv_eq_ediv_of_nonneg (by omega)]; omega
  have t3 : (n : Int) / 2 = (h : Int) := by omega
  have t4 : IntKind.i64.wrap (h : Int) = (h : Int) := IntWalk.i64_in _ (by constructor <;> omega)
  clear hml hn hl hll
  go_enter Tryd.func85, Tryd.ntmps85
  go_wp2
  clear t2 t3
  go_loopw [8, 16] (fun v i wr => FoldRel l h w v i wr) (fun _ i _ => h - (intOf i).toNat)
  case atStart => exact ⟨0, w.heap.size, Nat.zero_le _, rfl, rfl, own_made0 w _ h (Nat.le_refl _) (by omega), (Below.refl _ _).alloc (Nat.le_refl _) _⟩
  case round =>
    obtain ⟨k, g, hk, rfl, rfl, hown, hb⟩ := hrel
    have hcR : wr.cell? ⟨b, 0, none⟩ = some (vi p) := (hb.cell (p := ⟨b, 0, none⟩) hbl).trans hcb
    by_cases hkh : k < h
    · have hsw := hs.below hb
      have hkx : k < xs.length := by rw [HML.out]; omega
      have hkx2 : k + h < xs.length := by rw [HML.out]; omega
      obtain ⟨ad, rfl, _, hc1⟩ := hsw.at_ hkx
      obtain ⟨ad', he, _, hc2⟩ := hsw.at_ hkx2
      injection he with he
      subst he
      obtain ⟨ad2, he2, hab, _⟩ := hs.at_ hkx
      injection he2 with he2
      subst he2
      have hgl := (hown.lt g rfl).1
      have hk1 : some (ad.add k).block ≠ some g := by rw [block_of_add]; intro e; injection e with e; omega
      have hk2 : some (ad.add (k + h)).block ≠ some g := by rw [block_of_add]; intro e; injection e with e; omega
      have ix := hxs _ (List.getElem_mem hkx)
      have iy := hxs _ (List.getElem_mem hkx2)
      have hcx : co (els p xs) k = el p xs[k] := by rw [co_of_lt (by simpa using hkx)]; simp
      have hcy : co (els p xs) (k + h) = el p xs[k + h] := by rw [co_of_lt (by simpa using hkx2)]; simp
      have h2 := map_take_succ fv l k (by rw [HLL.out]; exact hkh)
      have h3 : l[k]'(by rw [HLL.out]; exact hkh) = fixE (co (els p xs) k) (co (els p xs) (k + h)) (el p r) := by
        rw [← co_of_lt (by rw [HLL.out]; exact hkh), HL.out, co_fixL _ _ hkh]
      obtain ⟨x, hx⟩ : ∃ x, x = xs[k] := ⟨_, rfl⟩
      obtain ⟨y, hy⟩ : ∃ y, y = xs[k + h] := ⟨_, rfl⟩
      rw [← hx] at hc1 ix hcx
      rw [← hy] at hc2 iy hcy
      rw [h3, hcx, hcy, fixE] at h2
      have hlk : ((fvs l).take k).length = k := by rw [List.length_take, List.length_map, HLL.out]; omega
      have H2 := Lib.hid h2
      have HLK := Lib.hid hlk
      have h1I : I64 1 := by constructor <;> decide
      have i1 : (0 : Int) ≤ k := by omega
      have i2 : (k : Int) < n := by omega
      have i3 : (0 : Int) ≤ (k : Int) + h := by omega
      have i4 : (k : Int) + h < n := by omega
      have i5 : ((k : Int) + h).toNat = k + h := by omega
      have i6 : IntKind.i64.wrap ((k : Int) + h) = (k : Int) + h := IntWalk.i64_in _ (by constructor <;> omega)
      clear h2 h3 hx hy hcx hcy hlk
      go_wp2
      go_region_held3 (fun w' => w'.cell? (ad.add k) = some (vi x) ∧ w'.cell? (ad.add (k + h)) = some (vi y)) (first | exact ⟨hc1, hc2⟩ | go_keep | exact ⟨hg.cell hc1 hk1, hg.cell hc2 hk2⟩) ((first | (go_at_call 109; refine (sub_any p hp2 b _ _ h1I hr _ (by exact hcR)).mono ?_; rintro e w' ⟨rfl, rfl⟩) | (go_at_call 70; refine (mul_any p hp2 b _ _ (by first | assumption | exact i64_fv _ hp2) (by first | assumption | exact i64_fv _ hp2) _ (by exact hcR)).mono ?_; rintro e w' ⟨rfl, k3, rfl⟩) | (go_at_call 73; refine (add_any p hp2 b _ _ (by first | assumption | exact i64_fv _ hp2) (by first | assumption | exact i64_fv _ hp2) _ (by exact hcR)).mono ?_; rintro e w' ⟨rfl, k5, rfl⟩) | (refine step_app1_fits _ _ _ (by rfl) (by rfl) _ _ (by rfl) w.heap.size g k h _ (by rfl) (by rfl) (hown.drewN _) HLK.out.symm hkh ?_; intro w1 hown1 hg)))
      go_wp2
      go_roundw
      case rel => exact ⟨k + 1, g, by omega, by go_num, rfl, by rw [← H2.out]; simp only [el_fv, el_one] at hown1; exact hown1, (below_drewN hb _).grown hg hb.size (fun j hj => by injection hj with hj; subst hj; exact hgl)⟩
      case measure => simp [intOf]; omega
    · obtain rfl : k = h := by omega
      go_wp2
      go_ret
      rw [List.take_of_length_le (by rw [List.length_map, HLL.out]; exact Nat.le_refl _)] at hown
      exact ⟨_, rfl, hown, hb⟩
theorem fix_no (b : Nat) (A : Option Addr) (n cap : Nat) (hn : n < 9223372036854775808) (h : ∀ v, ¬ Cube n (v + 1)) (r : Int) (w : World) :
    Calls Tryd.prog 45 #[.pointer (some ⟨b, 0, none⟩), .slice A n cap, vi r] w fun e w' => e = NoFold 2 ∧ w = w' := by
  by_cases hi : IsCube n
  · obtain ⟨v, hv⟩ := hi
    rcases v with _ | v
    · have hvv := Lib.hid (variables_yes A n cap 0 hv w)
      clear hv h
      go_enter Tryd.func45, Tryd.ntmps45
      go_wp2_with fail
      refine (hvv.out).mono ?_
      rintro e w' ⟨rfl, rfl⟩
      go_wp2
      go_ret2
      exact ⟨rfl, rfl⟩
    · exact absurd hv (h v)
  · have hvv := Lib.hid (variables_no A n cap hn hi w)
    clear hi h
    go_enter Tryd.func45, Tryd.ntmps45
    go_wp2_with fail
    refine (hvv.out).mono ?_
    rintro e w' ⟨rfl, rfl⟩
    go_wp2
    go_ret2
    exact ⟨rfl, rfl⟩

theorem fix_any (p S b : Nat) [NeZero p] (n v h : Nat) (hv : Cube n (v + 1)) (hn : n = 2 * h) (A : Option Addr) (cap : Nat) (xs : List Int) (hml : xs.length = n) (hxs : ∀ x ∈ xs, I64 x) (r : Int) (hr : I64 r) (w : World) (F : Fld w S b p) (hs : SL w A xs) :
    Calls Tryd.prog 45 #[.pointer (some ⟨b, 0, none⟩), .slice A n cap, vi r] w fun e w' => MadeE (fvs (fixL h (els p xs) (el p r))) w e w' := by
  have hvv := Lib.hid (variables_yes A n cap (v + 1) hv w)
  have hle := hv.le
  have hf := Lib.hid (fixed_any p S b n h (.inl hn) (by omega) A cap xs hml hxs r hr w F hs)
  clear hml hn hv F hs
  go_enter Tryd.func45, Tryd.ntmps45
  go_wp2_with fail
  refine (hvv.out).mono ?_
  rintro e w' ⟨rfl, rfl⟩
  go_wp2_with fail
  refine (hf.out).mono ?_
  rintro e w1 ⟨v, rfl, hown, hb⟩
  go_wp2
  go_ret2
  exact ⟨v, rfl, hown, hb⟩
end Go.Proofs.YtkhkoeibigpdnaaDoor
