/- A bundle of texts: Fold, Sm2, Code, Sm3, Sm4, Ct, Arg, Rowm, Sm5, Sm6, Rl, Tr, Sz, Cp, Mp, Gk, Th, Wy, Hd. -/
import Derived.Test.YtijhajkakmohnaaGreatDoorB04
import Derived.Test.YtijhajkakmohnaaGreatDoorB00
import Derived.Deep.RegionHeld3
import Derived.Test.YtijhajkakmohnaaGreatDoorB01
import Derived.ChangeSlices
import Derived.Test.YtijhajkakmohnaaGreatDoorB03
import Derived.Test.YtijhajkakmohnaaGreatDoorB02
import Derived.SizedLaws
import Derived.Deep.Matrix
import Derived.BigQuiet
import Derived.Maps.Own
import Derived.WideKeyEntry
import Derived.DeepKeys4
/- Walks: Point, Half, fold.one, folded, Fold. -/
set_option linter.unusedVariables false
namespace Go.Proofs.YtijhajkakmohnaaGreatDoor
open Go.RowKit Zp

set_option maxRecDepth 100000 in
set_option maxHeartbeats 1000000 in
theorem point_any (p S D b : Nat) [NeZero p] (n : Nat) (s : Fin p) (i : Int) (hi : I64 i) (w : World) (hD : Dom w S D b p n s) :
    Calls Tryz.prog 122 #[.pointer (some ⟨D, 0, none⟩), vi i] w fun e w' => e = .returned (vi (fv (s * pw (rootI p n) (i % (n : Int)).toNat))) ∧ ∃ k, w' = w.drewN k := by
  have hp1 := hD.fld.two
  have hp2 := hD.fld.max
  have hn0 := hD.size.pos
  have hn1 := hD.size.le
  have hd0 := hD.c0
  have hd1 := hD.c1
  have hd2 := hD.c2
  have hd3 := hD.c3
  have hcb := hD.fld.c0
  obtain ⟨r, hr⟩ : ∃ r, r = rootI p n := ⟨_, rfl⟩
  rw [← hr] at hd3 ⊢
  obtain ⟨j, hj⟩ : ∃ j, j = (i % (n : Int)).toNat := ⟨_, rfl⟩
  rw [← hj]
  have ht := tmod_emod i n hn0
  have h1 := Int.emod_nonneg i (b := (n : Int)) (by omega)
  have h2 := Int.emod_lt_of_pos i (b := (n : Int)) (by omega)
  have hjI : I64 (j : Int) := ⟨by omega, by omega⟩
  have hz : zpw r (j : Int) = pw r j := by rw [zpw, if_pos (by omega), Int.toNat_natCast]
  have hpow := fun W hc => pow_any p hp1 hp2 b (fv r) j (i64_fv r hp2) hjI W hc
  rw [el_fv, hz] at hpow
  have hmul := fun W hc => mul_any p hp2 b (fv s) (fv (pw r j)) (i64_fv s hp2) (i64_fv _ hp2) W hc
  rw [el_fv, el_fv] at hmul
  have HPOW := Lib.hid hpow
  have HMUL := Lib.hid hmul
  have hn0' : ¬ n = 0 := by omega
  obtain ⟨T, hT⟩ : ∃ T, T = i.tmod n := ⟨_, rfl⟩
  have b1 : -(n : Int) < T := by rw [hT, ht]; split <;> (try split) <;> omega
  have b2 : T < n := by rw [hT, ht]; split <;> (try split) <;> omega
  have hTj : T = j ∨ (T < 0 ∧ T + n = j) := by
    rw [hT, ht]
    split
    · left; omega
    · split
      · left; omega
      · right; omega
  have et : i.tmod (n : Int) = T := hT.symm
  clear hpow hmul hz ht hj hT hr
  rcases hTj with hTj | ⟨hT0, hTj⟩
  · subst hTj
    go_enter Tryz.func122, Tryz.ntmps122
    go_wp2
    go_quiet ((first | (go_at_call 167; exact Calls.quiet_of (HPOW.out _ (by exact hcb))) | (go_at_call 115; exact Calls.quiet_of (HMUL.out _ (by exact hcb)))))
    go_wp2
    go_ret
    exact ⟨rfl, _, rfl⟩
  · go_enter Tryz.func122, Tryz.ntmps122
    go_wp2
    go_quiet ((first | (go_at_call 167; exact Calls.quiet_of (HPOW.out _ (by exact hcb))) | (go_at_call 115; exact Calls.quiet_of (HMUL.out _ (by exact hcb)))))
    go_wp2
    go_ret
    exact ⟨rfl, _, rfl⟩

set_option maxRecDepth 100000 in
set_option maxHeartbeats 2000000 in
theorem one_any (p S D b : Nat) [NeZero p] (n : Nat) (s : Fin p) (i : Nat) (hin : i < n) (x y r : Int) (hx : I64 x) (hy : I64 y) (hr : I64 r) (w : World) (hD : Dom w S D b p n s) :
    Calls Tryz.prog 120 #[.pointer (some ⟨D, 0, none⟩), vi i, vi x, vi y, vi r] w fun e w' => e = .returned (vi (fv (foldE (el p x) (el p y) (el p r) (s * pw (rootI p n) i)))) ∧ ∃ k, w' = w.drewN k := by
  have hp1 := hD.fld.two
  have hp2 := hD.fld.max
  have hn1 := hD.size.le
  have hd0 := hD.c0
  have hcb := hD.fld.c0
  have hiI : I64 (i : Int) := ⟨by omega, by omega⟩
  have hpt := fun k => point_any p S D b n s i hiI (w.drewN k) (hD.drewN k)
  have ej : ((i : Int) % (n : Int)).toNat = i := by rw [Int.emod_eq_of_lt (by omega) (by omega)]; rfl
  rw [ej] at hpt
  have HPT := Lib.hid hpt
  obtain ⟨X, hX⟩ : ∃ X, X = s * pw (rootI p n) i := ⟨_, rfl⟩
  rw [← hX] at HPT ⊢
  have h2I : I64 2 := by constructor <;> decide
  clear hpt ej hX
  go_enter Tryz.func120, Tryz.ntmps120
  go_wp2_with fail
  refine (inv_any p hp1 hp2 b 2 h2I _ hcb).mono ?_
  rintro e w' ⟨rfl, rfl⟩
  go_wp2
  have iH := i64_fv (Zp.inv (el p 2)) hp2
  go_quiet ((first | (go_at_call 144; exact Calls.quiet_of (add_any p hp2 b _ _ (by first | assumption | exact i64_fv _ hp2) (by first | assumption | exact i64_fv _ hp2) _ (by exact hcb))) | (go_at_call 115; exact Calls.quiet_of (mul_any p hp2 b _ _ (by first | assumption | exact i64_fv _ hp2) (by first | assumption | exact i64_fv _ hp2) _ (by exact hcb)))))
  go_wp2
  go_quiet ((first | (go_at_call 139; exact quiet_eq2 (sub_any p hp2 b _ _ (by first | assumption | exact i64_fv _ hp2) (by first | assumption | exact i64_fv _ hp2) _ (by exact hcb))) | (go_at_call 115; exact quiet_of2 (mul_any p hp2 b _ _ (by first | assumption | exact i64_fv _ hp2) (by first | assumption | exact i64_fv _ hp2) _ (by exact hcb))) | (go_at_call 122; exact quiet_of2 (HPT.out _)) | (go_at_call 94; exact quiet_eq2 (inv_any p hp1 hp2 b _ (by first | assumption | exact i64_fv _ hp2) _ (by exact hcb)))))
  go_wp2
  go_quiet ((first | (go_at_call 144; exact quiet_of2 (add_any p hp2 b _ _ (by first | assumption | exact i64_fv _ hp2) (by first | assumption | exact i64_fv _ hp2) _ (by exact hcb))) | (go_at_call 115; exact quiet_of2 (mul_any p hp2 b _ _ (by first | assumption | exact i64_fv _ hp2) (by first | assumption | exact i64_fv _ hp2) _ (by exact hcb)))))
  go_wp2
  go_ret
  exact ⟨ret_int (by simp only [el_fv]; rfl), _, (World.drewN_drewN _ _ _).trans (World.drewN_drewN _ _ _)⟩

theorem half_one (p S D b : Nat) [NeZero p] (s : Fin p) (w : World) (hD : Dom w S D b p 1 s) :
    Calls Tryz.prog 62 #[.pointer (some ⟨D, 0, none⟩)] w fun e w' => e = NoDom 2 ∧ w = w' := by
  have hd1 := hD.c1
  have t1 : (((1 : Nat) : Int) == 1) = true := rfl
  go_enter Tryz.func62, Tryz.ntmps62
  go_wp2
  go_ret2
  exact ⟨rfl, rfl⟩

theorem sizeOk_half {p h : Nat} (hs : SizeOk p (2 * h)) (hh : 0 < h) : SizeOk p h := by
  obtain ⟨⟨k, hk, e⟩, hd⟩ := hs
  refine ⟨?_, Nat.dvd_trans ⟨2, by omega⟩ hd⟩
  cases k with
  | zero => simp at e; omega
  | succ k =>
    refine ⟨k, by omega, ?_⟩
    rw [Nat.pow_succ] at e
    omega

set_option maxRecDepth 100000 in
set_option maxHeartbeats 1000000 in
theorem half_any (p S D b : Nat) [NeZero p] (n h : Nat) (hn : n = 2 * h) (hh : 0 < h) (s : Fin p) (w : World) (hD : Dom w S D b p n s) :
    Calls Tryz.prog 62 #[.pointer (some ⟨D, 0, none⟩)] w fun e w' => MadeDom p b h (fv (s * s)) w e w' := by
  have hp2 := hD.fld.max
  have hn1 := hD.size.le
  have hp := hD.fld.prime
  have hd0 := hD.c0
  have hd1 := hD.c1
  have hd2 := hD.c2
  have hcb := hD.fld.c0
  have hso : SizeOk p h := sizeOk_half (by rw [← hn]; exact hD.size) hh
  have hmul := fun W hc => mul_any p hp2 b (fv s) (fv s) (i64_fv s hp2) (i64_fv s hp2) W hc
  rw [el_fv] at hmul
  have hnew := fun k => dnew_ok p S b h (fv (s * s)) (i64_fv _ hp2) hso (by rw [el_fv]; exact mul_ne_zero hp hD.s0 hD.s0) (w.drewN k) (hD.fld.drewN k)
  have HMUL := Lib.hid hmul
  have HNEW := Lib.hid hnew
  have hDl : D < w.heap.size := Nat.lt_of_lt_of_le hD.lt hD.le
  have t1 : ((n : Int) == 1) = false := by rw [beq_eq_false_iff_ne]; omega
  have t2 : (n : Int).tdiv 2 = (h : Int) := by rw [Int.tdiv_eq_ediv_of_nonneg (by omega)]; omega
  have t3 : (n : Int) / 2 = (h : Int) := by omega
  have t4 : IntKind.i64.wrap (h : Int) = (h : Int) := IntWalk.i64_in _ (by constructor <;> omega)
  clear hmul hnew hn hso
  go_enter Tryz.func62, Tryz.ntmps62
  go_wp2
  go_region_held3 (fun w' => w'.cell? ⟨D, 0, none⟩ = some (.pointer (some ⟨b, 0, none⟩)) ∧ w'.cell? ⟨D, 1, none⟩ = some (vi n) ∧ w'.cell? ⟨D, 2, none⟩ = some (vi (fv s))) (first | exact ⟨hd0, hd1, hd2⟩ | exact ⟨(hb2.cell (p := ⟨D, 0, none⟩) hDl).trans hd0, (hb2.cell (p := ⟨D, 1, none⟩) hDl).trans hd1, (hb2.cell (p := ⟨D, 2, none⟩) hDl).trans hd2⟩) ((first | (go_at_call 115; refine (HMUL.out _ (by exact hcb)).mono ?_; rintro e w' ⟨rfl, k3, rfl⟩) | (go_at_call 56; refine (HNEW.out _).mono ?_; rintro e w' ⟨D2, rfl, hD2, hb2, hle2⟩)))
  go_wp2
  go_ret2
  exact ⟨D2, rfl, hD2, (below_drewN (Below.refl _ w) _).trans hb2, hle2⟩

def FoldRel {p : Nat} [NeZero p] (l : List (Fin p)) (h : Nat) (w : World) (v i : Value) (wr : World) : Prop := ∃ k g : Nat, k ≤ h ∧ i = vi k ∧ v = .slice (some ⟨g, 0, none⟩) k h ∧ Own wr w.heap.size v ((fvs l).take k) ∧ Below w.heap.size w wr

/-- append of one int within the capacity, at a step of a region that draws its order -/
theorem step_app1_fits {ops : Array Oper} {o : Oper} {a : Act} {K : Act → World → Prop} {Q : Exit → Act → World → Prop} {E : Prop} (w W : World) (n : Int) (hW : W = w.alloc (.cells #[vi n] 3)) (hgd : o.guard = none) (s x : Operand)
    (ho : o.op = .call { callee := .builtin .append, args := #[s, x], argTypes := #[22, 22] })
    (base g k cap : Nat) (xs : List Int) (hs : a.eval s = .slice (some ⟨g, 0, none⟩) k cap) (hx : a.eval x = .slice (some ⟨w.heap.size, 0, none⟩) 1 1) (hown : Own w base (.slice (some ⟨g, 0, none⟩) k cap) xs) (hk : k = xs.length) (hroom : k < cap)
    (h : ∀ w', Own w' base (.slice (some ⟨g, 0, none⟩) (k + 1) cap) (xs ++ [n]) → w.grownBy w' (some g) → K (a.put o.dst (.slice (some ⟨g, 0, none⟩) (k + 1) cap)) w') :
    if Region.wanted o (yielded ops a.tmps) = true then Oper.wp Tryz.prog o a W K Q else E := by
  have hw : Region.wanted o (yielded ops a.tmps) = true := by simp [Region.wanted, hgd]
  rw [if_pos hw]
  subst hk hW
  obtain ⟨i0, hi, hz0, hz1, hz2⟩ := info_parts info_int
  obtain ⟨w', hrun, h2, h3⟩ := run_append_fits (P := Tryz.prog) (w.alloc (.cells #[vi n] 3)) base 22 o.type 3 i0 1 Tryz.underlying22 hi hz1 g xs.length cap (xs.map vi) (hown.alloc _)
    ⟨w.heap.size, 0, none⟩ 1 1 [vi n] rfl (cell_one_new _ _ _) (by simp [Value.oneCell']) (by omega)
  unfold Oper.wp execOp
  simp only [ho, resolve, invoke, builtin, Sem.run_bind, Sem.run_pure, Result.andThen_ok, List.map_toArray, List.map_cons, List.map_nil, hs, hx, hrun]
  refine h w' ?_ (grownBy_trans (World.grownBy_alloc w _ _) h3)
  have e : (xs ++ [n]).length = xs.length + 1 := by simp
  rw [Own, e, List.map_append]
  exact h2

set_option maxRecDepth 100000 in
set_option maxHeartbeats 2000000 in
theorem folded_any (p S D b : Nat) [NeZero p] (n h : Nat) (hn : n = 2 * h) (hh : 0 < h) (s : Fin p) (A : Option Addr) (cap : Nat) (xs : List Int) (hml : xs.length = n) (hxs : ∀ x ∈ xs, I64 x) (r : Int) (hr : I64 r) (w : World) (hD : Dom w S D b p n s) (hs : SL w A xs) :
    Calls Tryz.prog 81 #[.pointer (some ⟨D, 0, none⟩), .slice A n cap, vi r] w fun e w' => Made (fvs (foldL s (rootI p n) h (els p xs) (el p r))) w e w' := by
  have hp2 := hD.fld.max
  have hn1 := hD.size.le
  have hd1 := hD.c1
  have hmk := make_ints0 h (by omega)
  have hone := fun (i : Nat) (hi : i < n) (x y : Int) (hx : I64 x) (hy : I64 y) (W : World) hDW => one_any p S D b n s i hi x y r hx hy hr W hDW
  have HONE := Lib.hid hone
  have hDle := hD.le
  have HML := Lib.hid hml
  have HN := Lib.hid hn
  have hhn : h < n := by omega
  obtain ⟨l, hl⟩ : ∃ l, l = foldL s (rootI p n) h (els p xs) (el p r) := ⟨_, rfl⟩
  rw [← hl]
  have hll : l.length = h := by rw [hl, foldL_length]
  have HLL := Lib.hid hll
  have HL := Lib.hid hl
  have t2 : (n : Int).tdiv 2 = (h : Int) := by rw [Int.tdiv_eq_ediv_of_nonneg (by omega)]; omega
  have t3 : (n : Int) / 2 = (h : Int) := by omega
  clear hone hml hn hl hll
  go_enter Tryz.func81, Tryz.ntmps81
  go_wp2_with fail
  refine (size_any D n _ hd1).mono ?_
  rintro e w' ⟨rfl, rfl⟩
  go_wp2
  clear t2 t3
  go_loopw [8, 16] (fun v i wr => FoldRel l h w v i wr) (fun _ i _ => h - (intOf i).toNat)
  case atStart => exact ⟨0, w.heap.size, Nat.zero_le _, rfl, rfl, own_made0 w _ h (Nat.le_refl _) (by omega), (Below.refl _ _).alloc (Nat.le_refl _) _⟩
  case round =>
    obtain ⟨k, g, hk, rfl, rfl, hown, hb⟩ := hrel
    have hDr := hD.below hb hDle
    by_cases hkh : k < h
    · have hsw := hs.below hb
      have hkx : k < xs.length := by rw [HML.out]; omega
      have hkx2 : k + h < xs.length := by rw [HML.out, HN.out]; omega
      obtain ⟨ad, rfl, _, hc1⟩ := hsw.at_ hkx
      obtain ⟨ad', he, _, hc2⟩ := hsw.at_ hkx2
      injection he with he
      subst he
      obtain ⟨ad2, he2, hab, _⟩ := hs.at_ hkx
      injection he2 with he2
      subst he2
      have hgl := (hown.lt g rfl).1
      have hk1 : some (ad.add k).block ≠ some g := by rw [block_of_add]; intro e; injection e with e; omega
      have hk2 : some (ad.add (k + h)).block ≠ some g := by rw [block_of_add]; intro e; injection e with e; omega
      have ix := hxs _ (List.getElem_mem hkx)
      have iy := hxs _ (List.getElem_mem hkx2)
      have hcx : co (els p xs) k = el p xs[k] := by rw [co_of_lt (by simpa using hkx)]; simp
      have hcy : co (els p xs) (k + h) = el p xs[k + h] := by rw [co_of_lt (by simpa using hkx2)]; simp
      have h2 := map_take_succ fv l k (by rw [HLL.out]; exact hkh)
      have h3 : l[k]'(by rw [HLL.out]; exact hkh) = foldE (co (els p xs) k) (co (els p xs) (k + h)) (el p r) (s * pw (rootI p n) k) := by
        rw [← co_of_lt (by rw [HLL.out]; exact hkh), HL.out, foldL, co_tab, if_pos hkh]
      obtain ⟨x, hx⟩ : ∃ x, x = xs[k] := ⟨_, rfl⟩
      obtain ⟨y, hy⟩ : ∃ y, y = xs[k + h] := ⟨_, rfl⟩
      rw [← hx] at hc1 ix hcx
      rw [← hy] at hc2 iy hcy
      rw [h3, hcx, hcy] at h2
      have h1 := fun W hDW => HONE.out k (by omega) x y ix iy W hDW
      obtain ⟨Z, hZ⟩ : ∃ Z, Z = foldE (el p x) (el p y) (el p r) (s * pw (rootI p n) k) := ⟨_, rfl⟩
      rw [← hZ] at h1 h2
      have hlk : ((fvs l).take k).length = k := by rw [List.length_take, List.length_map, HLL.out]; omega
      have H1 := Lib.hid h1
      have H2 := Lib.hid h2
      have HLK := Lib.hid hlk
      have i1 : (0 : Int) ≤ k := by omega
      have i2 : (k : Int) < n := by omega
      have i3 : (0 : Int) ≤ (k : Int) + h := by omega
      have i4 : (k : Int) + h < n := by have := HN.out; omega
      have i5 : ((k : Int) + h).toNat = k + h := by omega
      have i6 : IntKind.i64.wrap ((k : Int) + h) = (k : Int) + h := IntWalk.i64_in _ (by constructor <;> omega)
      clear h1 h2 h3 hx hy hcx hcy hZ hlk
      go_wp2
      go_region_held3 (fun w' => w'.cell? (ad.add k) = some (vi x) ∧ w'.cell? (ad.add (k + h)) = some (vi y)) (first | exact ⟨hc1, hc2⟩ | go_keep | exact ⟨hg.cell hc1 hk1, hg.cell hc2 hk2⟩) ((first | (go_at_call 120; refine (H1.out _ (hDr.drewN _)).mono ?_; rintro e w' ⟨rfl, k3, rfl⟩) | (refine step_app1_fits _ _ (fv Z) (by rfl) (by rfl) _ _ (by rfl) w.heap.size g k h _ (by rfl) (by rfl) (hown.drewN _) HLK.out.symm hkh ?_; intro w1 hown1 hg)))
      go_wp2
      go_roundw
      case rel => exact ⟨k + 1, g, by omega, by go_num, rfl, by rw [← H2.out]; exact hown1, (below_drewN hb _).grown hg hb.size (fun j hj => by injection hj with hj; subst hj; exact hgl)⟩
      case measure => simp [intOf]; omega
    · obtain rfl : k = h := by omega
      go_wp2
      go_ret
      rw [List.take_of_length_le (by rw [List.length_map, HLL.out]; exact Nat.le_refl _)] at hown
      exact ⟨_, rfl, hown, hb⟩

end Go.Proofs.YtijhajkakmohnaaGreatDoor

/- Walks: sums.fixed, Fix, Extend. -/
set_option linter.unusedVariables false
namespace Go.Proofs.YtijhajkakmohnaaGreatDoor
open Go.RowKit Zp

end Go.Proofs.YtijhajkakmohnaaGreatDoor

/- Walks: code.may, Encode, Distance. -/
set_option linter.unusedVariables false
namespace Go.Proofs.YtijhajkakmohnaaGreatDoor
open Go.RowKit Zp

/-- may k be? A Bool behind a name -/
def mayB (n : Nat) (k : Int) : Bool := decide (1 ≤ k ∧ k ≤ n)
theorem mayB_true {n : Nat} {k : Int} (h : 1 ≤ k ∧ k ≤ n) : mayB n k = true := decide_eq_true h
theorem mayB_false {n : Nat} {k : Int} (h : ¬ (1 ≤ k ∧ k ≤ n)) : mayB n k = false := decide_eq_false h
theorem may_any (D n : Nat) (k : Int) (w : World) (hc : w.cell? ⟨D, 1, none⟩ = some (vi n)) :
    Calls Tryz.prog 128 #[.pointer (some ⟨D, 0, none⟩), vi k] w fun e w' => e = .returned (.bool (mayB n k)) ∧ w = w' := by
  by_cases h1 : 1 ≤ k
  · by_cases h2 : k ≤ n
    · have h := mayB_true ⟨h1, h2⟩
      have H := Lib.hid h
      clear h
      go_enter Tryz.func128, Tryz.ntmps128
      go_wp2_with (go_at_call 66; refine (size_any D n _ hc).mono ?_; rintro e w' ⟨rfl, rfl⟩)
      go_ret
      exact ⟨ret_bool H.out.symm, rfl⟩
    · have t2 : decide (k ≤ (n : Int)) = false := by simpa using h2
      have h := mayB_false (n := n) (k := k) (fun h => h2 h.2)
      have H := Lib.hid h
      clear h
      go_enter Tryz.func128, Tryz.ntmps128
      go_wp2_with (go_at_call 66; refine (size_any D n _ hc).mono ?_; rintro e w' ⟨rfl, rfl⟩)
      go_ret
      exact ⟨ret_bool H.out.symm, rfl⟩
  · have t1 : decide (1 ≤ k) = false := by simpa using h1
    have h := mayB_false (n := n) (k := k) (fun h => h1 h.1)
    have H := Lib.hid h
    clear h
    go_enter Tryz.func128, Tryz.ntmps128
    go_wp2
    go_ret
    exact ⟨ret_bool H.out.symm, rfl⟩


theorem of_elq (p : Nat) [NeZero p] (hp2 : p ≤ 2147483647) (b : Nat) (n : Int) (hn : I64 n) (w : World) (hc : w.cell? ⟨b, 0, none⟩ = some (vi p)) :
    Calls Tryz.prog 108 #[.pointer (some ⟨b, 0, none⟩), vi n] w fun e w' => e = .returned (vi (fv (el p n))) ∧ w = w' :=
  (of_el p hp2 b n hn w hc).mono fun _ _ h => ⟨h.1, h.2.symm⟩
end Go.Proofs.YtijhajkakmohnaaGreatDoor

/- Walk: sums.Extend. -/
set_option linter.unusedVariables false
namespace Go.Proofs.YtijhajkakmohnaaGreatDoor
open Go.RowKit Zp

abbrev NoInt (k : Int) : Ending := .returned (.tuple #[vi 0, .iface 89 (.int .i64 k)])
/-- an int, no error -/
def GivesI (x : Int) (w : World) (e : Ending) (w' : World) : Prop := e = .returned (.tuple #[vi x, .nilIface]) ∧ Below w.heap.size w w'
end Go.Proofs.YtijhajkakmohnaaGreatDoor

/- Tables in memory; walks: sums.total. -/
set_option linter.unusedVariables false
namespace Go.Proofs.YtijhajkakmohnaaGreatDoor
open Go.RowKit Zp

/-- a product of k -/
def prodT {p : Nat} [NeZero p] (k : Nat) (f : Nat → Fin p) : Fin p := match k with
  | 0 => 1
  | k + 1 => prodT k f * f k
theorem prodT_succ {p : Nat} [NeZero p] (k : Nat) (f : Nat → Fin p) : prodT (k + 1) f = prodT k f * f k := rfl
theorem prodT_congr {p : Nat} [NeZero p] {k : Nat} {f g : Nat → Fin p} (h : ∀ i, i < k → f i = g i) : prodT k f = prodT k g := by
  induction k with
  | zero => rfl
  | succ k ih => rw [prodT_succ, prodT_succ, ih (fun i hi => h i (by omega)), h k (by omega)]
/-- table number j of several -/
def tabOf (p : Nat) [NeZero p] (ts : List (List Int)) (j : Nat) : List (Fin p) := els p (ts.getD j [])
/-- the sum of the products of the tables -/
def totP {p : Nat} [NeZero p] (d n : Nat) (T : Nat → List (Fin p)) : Fin p := sumT n fun i => prodT d fun j => co (T j) i

end Go.Proofs.YtijhajkakmohnaaGreatDoor

/- Plain facts: the round's polynomial of a sum; what is not true is caught. No program is in sight but for the words of the tables. -/
set_option linter.unusedVariables false
namespace Go.Proofs.YtijhajkakmohnaaGreatDoor
open Zp
section ct
variable {p : Nat} [NeZero p]

theorem fixE_eq (a b r : Fin p) : fixE a b r = a + (b - a) * r := by unfold fixE; grind

/-- a product of straight lines is a polynomial -/
theorem prod_poly (d : Nat) (f g : Nat → Fin p) : ∃ Q : List (Fin p), Q.length ≤ d + 1 ∧ ∀ r, ev Q r = prodT d fun j => fixE (f j) (g j) r := by
  induction d with
  | zero => exact ⟨[1], by simp, fun r => by simp only [ev, prodT]; grind⟩
  | succ d ih =>
    obtain ⟨Q, h1, h2⟩ := ih
    refine ⟨trimL (mulL Q [f d, g d - f d]), ?_, fun r => ?_⟩
    · have h3 : (trimL (mulL Q [f d, g d - f d])).length ≤ Q.length + 1 := trimL_length_of fun i hi => co_mulL_ge _ Q i (by simp; omega)
      omega
    · rw [ev_trim, ev_mulL, h2, prodT_succ, fixE_eq]
      simp only [ev]
      grind
theorem sum_poly (d h : Nat) (F G : Nat → Nat → Fin p) : ∃ Q : List (Fin p), Q.length ≤ d + 1 ∧ ∀ r, ev Q r = sumT h fun i => prodT d fun j => fixE (F i j) (G i j) r := by
  induction h with
  | zero => exact ⟨[], by simp, fun r => rfl⟩
  | succ h ih =>
    obtain ⟨Q, h1, h2⟩ := ih
    obtain ⟨R, h3, h4⟩ := prod_poly d (F h) (G h)
    refine ⟨addL Q R, ?_, fun r => ?_⟩
    · rw [addL, tab_length]; omega
    · rw [ev_addL, h2, h4, sumT_succ]
theorem sumT_split (m k : Nat) (f : Nat → Fin p) : sumT (m + k) f = sumT m f + sumT k (fun i => f (i + m)) := by
  induction k with
  | zero => simp only [sumT, Nat.add_zero]; grind
  | succ k ih => rw [← Nat.add_assoc, sumT_succ, ih, sumT_succ, Nat.add_comm k m]; grind

/-- the tables with the first variable let be r -/
def fixT (h : Nat) (T : Nat → List (Fin p)) (r : Fin p) (j : Nat) : List (Fin p) := fixL h (T j) r
theorem tot_fix (d h : Nat) (T : Nat → List (Fin p)) (r : Fin p) : totP d h (fixT h T r) = sumT h fun i => prodT d fun j => fixE (co (T j) i) (co (T j) (i + h)) r :=
  sumT_congr fun i hi => prodT_congr fun j hj => by rw [fixT, co_fixL _ _ hi]
theorem tot_round (d h : Nat) (T : Nat → List (Fin p)) : totP d (2 * h) T = totP d h (fixT h T 0) + totP d h (fixT h T 1) := by
  rw [tot_fix, tot_fix, totP, Nat.two_mul, sumT_split]
  congr 1
  · exact sumT_congr fun i _ => prodT_congr fun j _ => by rw [fixE_eq]; grind
  · exact sumT_congr fun i _ => prodT_congr fun j _ => by rw [fixE_eq]; grind

/-- if all of d + 1 unlike elements are met, the sum is true -/
theorem catch_law (hp : IsPrime p) {d h : Nat} (T : Nat → List (Fin p)) {g : List (Fin p)} (hg : g.length ≤ d + 1) {rs : List (Fin p)} (hn : rs.Nodup) (hl : rs.length = d + 1) (hr : ∀ r ∈ rs, totP d h (fixT h T r) = ev g r) :
    totP d (2 * h) T = ev g 0 + ev g 1 := by
  obtain ⟨Q, h1, h2⟩ := sum_poly d h (fun i j => co (T j) i) (fun i j => co (T j) (i + h))
  have hQ : ∀ r, ev Q r = totP d h (fixT h T r) := fun r => by rw [h2, tot_fix]
  have hz : trimL (subL Q g) = [] := zero_of_roots hp hn (fun r hrm => by rw [ev_subL, hQ, hr r hrm]; grind) (by rw [subL, tab_length]; omega)
  have he : ∀ r, ev Q r = ev g r := fun r => by
    have h3 := ev_trim (subL Q g) r
    rw [hz, ev_subL] at h3
    simp only [ev] at h3
    grind
  rw [tot_round, ← hQ, ← hQ, he, he]
end ct
end Go.Proofs.YtijhajkakmohnaaGreatDoor

/- A slice of ints that came in. -/
set_option linter.unusedVariables false
namespace Go.Proofs.YtijhajkakmohnaaGreatDoor
open Go.RowKit

/-- '.slice A n c' came in and reads as xs -/
structure ArgS (w : World) (A : Option Addr) (n c : Nat) (xs : List Int) : Prop where
  len : xs.length = n
  cap : n ≤ c
  i64 : ∀ x ∈ xs, I64 x
  reach : c * 8 ≤ 140737488351232
  sl : SL w A xs

theorem ArgS.nil (w : World) : ArgS w none 0 0 [] := ⟨rfl, Nat.le_refl _, by simp, by omega, SL.nil⟩
theorem i64_of_wf {n : Int} (h : (Lit.int .i64 n).wf = true) : I64 n := by
  simpa [Lit.wf, IntKind.min, IntKind.max, IntKind.signed, IntKind.bits] using h

theorem ArgS.mk_ {w : World} {a : Addr} {len cap : Nat} {zs : List Int} (hl : len ≤ cap) (hm : cap ≤ maxLen) (hz : zs.length = cap) (lt : ∀ q ∈ MemPlace.row a zs.length, q.block < w.heap.size)
    (hcell : ∀ i, i < zs.length → w.cell? (a.add i) = some (.int .i64 (zs.getD i 0))) (hwz : ∀ n ∈ zs, (Lit.int .i64 n).wf = true) (hb : cap * 8 ≤ 140737488351232) : ArgS w (some a) len cap (zs.take len) := by
  have hlen : (zs.take len).length = len := by rw [List.length_take, hz]; omega
  refine ⟨hlen, hl, fun x hx => i64_of_wf (hwz x (List.mem_of_mem_take hx)), hb, ?_⟩
  refine ⟨by simp, fun hn => ⟨a, rfl, ?_, fun j u hu => ?_⟩⟩
  · have h0 : 0 < zs.length := by rw [hlen] at hn; omega
    have hc0 := hcell 0 h0
    have : (a.add 0).block < w.heap.size := by
      false_or_by_contra
      rename_i hge
      rw [World.cell?, Array.getElem?_eq_none (by omega)] at hc0
      cases hc0
    rwa [block_of_add] at this
  · rw [List.getElem?_map] at hu
    cases hj : (zs.take len)[j]? with
    | none => rw [hj] at hu; cases hu
    | some x =>
      rw [hj] at hu
      injection hu with hu
      rw [List.getElem?_take] at hj
      split at hj
      · have hjl : j < zs.length := (List.getElem?_eq_some_iff.1 hj).1
        rw [hcell j hjl, ← hu]
        simp [List.getD_eq_getElem?_getD, hj]
      · cases hj

section
variable {w w' : World} {A : Option Addr} {n c : Nat} {xs : List Int}
theorem ArgS.below (h : ArgS w A n c xs) (hb : Below w.heap.size w w') : ArgS w' A n c xs := ⟨h.len, h.cap, h.i64, h.reach, h.sl.below hb⟩
theorem ArgS.r8 (h : ArgS w A n c xs) : xs.length * 8 ≤ 140737488351232 := by
  have := h.reach
  have := h.cap
  have := h.len
  omega
end
end Go.Proofs.YtijhajkakmohnaaGreatDoor

/- Own slices of slices of ints: append of one; how they read; slices of slices of ints that came in. -/
set_option linter.unusedVariables false
namespace Go.Proofs.YtijhajkakmohnaaGreatDoor
open Go.RowKit

theorem info_ints : (Tryz.prog.info? 22).map (fun i => (i.zero, i.size, i.bytes)) = some (some (.slice none 0 0), 1, 24) := by kernel_rfl

/-- the call's own slice of slices of ints -/
abbrev OwnR (w : World) (base : Nat) (v : Value) (us : List Value) : Prop := w.ownsRow base 22 1 v us.length us
/-- each is a slice of ints of the call's own -/
def RowsOwn (w : World) (base : Nat) (us : List Value) (ls : List (List Int)) : Prop := us.length = ls.length ∧ ∀ k (h : k < us.length) (h' : k < ls.length), Own w base us[k] ls[k]

theorem own_ne {w : World} {base base' : Nat} {v u : Value} {xs : List Int} {us : List Value} (h : Own w base v xs) (k : OwnR w base' u us) : v.ownBlock = none ∨ v.ownBlock ≠ u.ownBlock := by
  rcases h.2 with ⟨rfl, _⟩ | ⟨g, cap, cur, rfl, _, hg, _⟩
  · exact .inl rfl
  · refine .inr ?_
    rcases k.2 with ⟨rfl, _⟩ | ⟨g', cap', cur', rfl, _, hg', _⟩
    · intro e; cases e
    · intro e
      injection e with e
      subst e
      rw [hg] at hg'
      injection hg' with hg'
      injection hg' with _ ht
      exact absurd ht (by decide)

/-- what an append of an own row leaves -/
structure GrewR (w w' : World) (base : Nat) (v v' : Value) (us : List Value) : Prop where
  own : OwnR w' base v' us
  grown : w.grownBy w' v.ownBlock

theorem GrewR.below {w0 w w' : World} {base : Nat} {v v' : Value} {us vs : List Value} (h : GrewR w w' base v v' us) {B : Nat} (hb : Below B w0 w) (ho : OwnR w base v vs) (hB : B ≤ base) (hs : B ≤ w.heap.size) : Below B w0 w' :=
  hb.grown h.grown hs (fun k hk => Nat.le_trans hB (World.ownsRow.lt ho k hk).1)
theorem GrewR.rows {w w' : World} {base base2 : Nat} {v v' : Value} {us vs ws : List Value} {ls : List (List Int)} (h : GrewR w w' base v v' us) (ho : OwnR w base v vs) (hr : RowsOwn w base2 ws ls) : RowsOwn w' base2 ws ls :=
  ⟨hr.1, fun k h1 h2 => (hr.2 k h1 h2).grown h.grown (own_ne (hr.2 k h1 h2) ho)⟩

theorem run_appR (w : World) (base : Nat) (v : Value) (us : List Value) (A : Option Addr) (n c : Nat) (hown : OwnR w base v us) (hlen : us.length < 5864062014805) (hbase : base ≤ w.heap.size) (ty : TypeId) :
    ∃ v' w', (Builtin.append_ #[23, 23] ty #[v, .slice (some ⟨w.heap.size, 0, none⟩) 1 1]).run Tryz.prog (w.alloc (.cells #[.slice A n c] 22)) = .ok v' w' ∧ GrewR w w' base v v' (us ++ [.slice A n c]) := by
  obtain ⟨i0, hi, hz0, hz1, hz2⟩ := info_parts info_ints
  obtain ⟨v', w', hrun, h2, h3, _, h5⟩ := run_append_own_at (P := Tryz.prog) (w.alloc (.cells #[.slice A n c] 22)) base 23 ty 22 i0 _ 1 24 Tryz.underlying23 hi hz0 hz1 hz2 rfl (by omega)
    v us.length us (hown.alloc _) ⟨w.heap.size, 0, none⟩ 1 1 [.slice A n c] rfl (by
      intro j u hj
      match j, hj with
      | 0, hj => simp at hj; subst hj; simp [Addr.add]) (by simp [Value.oneCell']) (by simp only [maxLen]; omega) (by omega) (by simp; omega)
  refine ⟨v', w', hrun, ?_, grownBy_trans (World.grownBy_alloc w _ _) h3⟩
  have e : (us ++ [Value.slice A n c]).length = us.length + 1 := by simp
  rw [OwnR, e]
  exact h2

/-- append of one row -/
theorem wpList_appR {ops : Array Oper} {rest : List Oper} {o : Oper} {a : Act} {Q : Exit → Act → World → Prop} (w : World) (A : Option Addr) (n c : Nat) (hgd : o.guard = none) (s x : Operand)
    (ho : o.op = .call { callee := .builtin .append, args := #[s, x], argTypes := #[23, 23] })
    (base : Nat) (v : Value) (us : List Value) (hs : a.eval s = v) (hx : a.eval x = .slice (some ⟨w.heap.size, 0, none⟩) 1 1) (hown : OwnR w base v us) (hlen : us.length < 5864062014805) (hbase : base ≤ w.heap.size)
    (h : ∀ v' w', GrewR w w' base v v' (us ++ [.slice A n c]) → wpList Tryz.prog ops Q rest (a.put o.dst v') w') : wpList Tryz.prog ops Q (o :: rest) a (w.alloc (.cells #[.slice A n c] 22)) :=
  wpList_plain hgd fun _ hK => by
    obtain ⟨v', w', hrun, hg⟩ := run_appR w base v us A n c hown hlen hbase o.type
    unfold Oper.wp execOp
    simp only [ho, resolve, invoke, builtin, Sem.run_bind, Sem.run_pure, Result.andThen_ok, List.map_toArray, List.map_cons, List.map_nil, hs, hx, hrun]
    exact hK _ _ (h v' w' hg)

theorem RowsOwn.nil (w : World) (base : Nat) : RowsOwn w base [] [] := ⟨rfl, fun k h => absurd h (by simp)⟩
theorem RowsOwn.snoc {w : World} {base : Nat} {us : List Value} {ls : List (List Int)} {u : Value} {l : List Int} (h : RowsOwn w base us ls) (hu : Own w base u l) : RowsOwn w base (us ++ [u]) (ls ++ [l]) := by
  have hl := h.1
  refine ⟨by simp [hl], fun k h1 h2 => ?_⟩
  by_cases hk : k < us.length
  · rw [List.getElem_append_left hk, List.getElem_append_left (by omega)]
    exact h.2 k hk (by omega)
  · have e : k = us.length := by simp at h1; omega
    subst e
    rw [List.getElem_append_right (Nat.le_refl _), List.getElem_append_right (by omega)]
    simpa [hl] using hu
theorem RowsOwn.below {w w' : World} {base : Nat} {us : List Value} {ls : List (List Int)} (h : RowsOwn w base us ls) (hb : Below w.heap.size w w') : RowsOwn w' base us ls := ⟨h.1, fun k h1 h2 => (h.2 k h1 h2).below hb⟩
theorem RowsOwn.more {w : World} {base base' : Nat} {us : List Value} {ls : List (List Int)} (h : RowsOwn w base us ls) (hb : base' ≤ base) : RowsOwn w base' us ls := ⟨h.1, fun k h1 h2 => (h.2 k h1 h2).more hb⟩

/-- own rows read as tables -/
theorem tb_own {w : World} {base base2 : Nat} {A : Option Addr} {n c : Nat} {us : List Value} {ls : List (List Int)} (h : OwnR w base (.slice A n c) us) (hr : RowsOwn w base2 us ls) (hi : ∀ l ∈ ls, ∀ x ∈ l, I64 x) : TB w A ls := fun k hk => by
  have hku : k < us.length := by rw [hr.1]; exact hk
  have hn : us.length = n := by
    rcases h.2 with ⟨e, h0⟩ | ⟨g, cap, cur, e, _⟩
    · injection e with _ e2 _; omega
    · injection e with _ e2 _; exact e2.symm
  subst hn
  have hrd := Reads.of_own h
  obtain ⟨ad, u, e1, e2, e3, e4⟩ := Reads.at_ (k := k) hrd (by omega)
  have e5 : u = us[k] := by
    rw [List.getElem?_eq_getElem hku] at e3
    injection e3 with e3
    exact e3.symm
  obtain ⟨A1, n1, c1, e6, e7, e8, e9, e10⟩ := (hr.2 k hku hk).shapeN
  have hm : maxLen < 9223372036854775808 := by simp [maxLen]
  exact ⟨ad, A1, n1, c1, e1, by rw [block_of_add]; exact e2, by rw [e4, e5, e6], e7, by omega, e10, hi _ (List.getElem_mem hk)⟩
theorem ownR_shape {w : World} {base : Nat} {v : Value} {us : List Value} (h : OwnR w base v us) : ∃ A n c, v = .slice A n c ∧ us.length = n ∧ n ≤ c := by
  rcases h.2 with ⟨rfl, h0⟩ | ⟨g, cap, cur, rfl, _, _, h1, _⟩
  · exact ⟨none, 0, 0, rfl, h0, Nat.le_refl _⟩
  · exact ⟨_, _, _, rfl, rfl, h1⟩

/-- '.slice A n c' came in and reads as rows -/
structure ArgM (w : World) (A : Option Addr) (n c : Nat) (ts : List (List Int)) : Prop where
  len : ts.length = n
  cap : n ≤ c
  max : c ≤ 9223372036854775807
  tb : TB w A ts
theorem ArgM.nil (w : World) : ArgM w none 0 0 [] := ⟨rfl, Nat.le_refl _, by omega, fun k hk => absurd hk (by simp)⟩
theorem ArgM.mk_ {w : World} {a : Addr} {len cap : Nat} {A : Nat → Option Addr} {L C : Nat → Nat} {Z : Nat → List Int} (hl : len ≤ cap) (hm : cap ≤ maxLen)
    (h : ∀ r, r < cap → w.cell? (a.add r) = some (.slice (A r) (L r) (C r)) ∧ L r ≤ C r ∧ C r ≤ maxLen ∧ (Z r).length = C r ∧ (∀ n ∈ Z r, (Lit.int .i64 n).wf = true) ∧ (A r = none → C r = 0) ∧
        ∀ a', A r = some a' → 0 ≤ a'.block ∧ ∀ c, c < C r → w.cell? (a'.add c) = some (.int .i64 ((Z r).getD c 0))) :
    ArgM w (some a) len cap ((List.range len).map fun r => (Z r).take (L r)) := by
  have hmm : maxLen ≤ 9223372036854775807 := by simp [maxLen]
  refine ⟨by simp, hl, by omega, fun k hk => ?_⟩
  have hk' : k < len := by simpa using hk
  obtain ⟨h1, h2, h3, h4, h5, h6, h7⟩ := h k (by omega)
  have e : ((List.range len).map fun r => (Z r).take (L r))[k] = (Z k).take (L k) := by simp
  rw [e]
  have hlen : ((Z k).take (L k)).length = L k := by rw [List.length_take, h4]; omega
  refine ⟨a, A k, L k, C k, rfl, block_lt_of_cell h1, h1, hlen, by omega, ⟨by simp, fun hn => ?_⟩, fun x hx => i64_of_wf (h5 x (List.mem_of_mem_take hx))⟩
  rw [hlen] at hn
  cases hA : A k with
  | none => have := h6 hA; omega
  | some a' =>
    obtain ⟨_, h8⟩ := h7 a' hA
    have hc0 := h8 0 (by omega)
    refine ⟨a', rfl, ?_, fun j u hu => ?_⟩
    · have := block_lt_of_cell hc0
      rwa [block_of_add] at this
    · rw [List.getElem?_map] at hu
      cases hj : ((Z k).take (L k))[j]? with
      | none => rw [hj] at hu; cases hu
      | some x =>
        rw [hj] at hu
        injection hu with hu
        rw [List.getElem?_take] at hj
        split at hj
        · have hjl : j < (Z k).length := (List.getElem?_eq_some_iff.1 hj).1
          rw [h8 j (by omega), ← hu]
          simp [List.getD_eq_getElem?_getD, hj]
        · cases hj
end Go.Proofs.YtijhajkakmohnaaGreatDoor

/- Walks: sums.checked. -/
set_option linter.unusedVariables false
namespace Go.Proofs.YtijhajkakmohnaaGreatDoor
open Go.RowKit Zp

theorem varsI_I64 (n : Nat) : I64 (varsI n) := by
  by_cases h : IsCube n
  · obtain ⟨v, hv⟩ := h
    rw [varsI_of hv]
    have := hv.1
    constructor <;> omega
  · rw [varsI_no h]; constructor <;> decide

end Go.Proofs.YtijhajkakmohnaaGreatDoor

/- Walks: sums.checked, Total. -/
set_option linter.unusedVariables false
namespace Go.Proofs.YtijhajkakmohnaaGreatDoor
open Go.RowKit Zp

theorem varsI_eq {n v : Nat} (h : varsI n = (v : Int)) : Cube n v := by
  by_cases hi : IsCube n
  · obtain ⟨u, hu⟩ := hi
    rw [varsI_of hu] at h
    obtain rfl : u = v := by omega
    exact hu
  · rw [varsI_no hi] at h; omega
theorem cell_new1 (w : World) (v : Value) (t : TypeId) : (w.alloc (.cells #[v] t)).cell? ⟨w.heap.size, 0, none⟩ = some v := by
  simp
/-- all tables have v variables -/
def Over (ts : List (List Int)) (v : Nat) : Prop := ∀ t ∈ ts, Cube t.length v

end Go.Proofs.YtijhajkakmohnaaGreatDoor

/- Plain and memory: tables Fixed; what a round tells, as lists; rows of one's own. -/
set_option linter.unusedVariables false
namespace Go.Proofs.YtijhajkakmohnaaGreatDoor
open Go.RowKit Zp


/-- the tables with their first variable let be r, as lists -/
def fixI (q h : Nat) [NeZero q] (ts : List (List Int)) (d : Nat) (r : Fin q) : List (List Int) := (List.range d).map fun j => fvs (fixL h (tabOf q ts j) r)
theorem fixI_length (q h : Nat) [NeZero q] (ts : List (List Int)) (d : Nat) (r : Fin q) : (fixI q h ts d r).length = d := by simp [fixI]
theorem fixI_take (q h : Nat) [NeZero q] (ts : List (List Int)) (d : Nat) (r : Fin q) (k : Nat) (hk : k < d) : (fixI q h ts d r).take k ++ [fvs (fixL h (tabOf q ts k) r)] = (fixI q h ts d r).take (k + 1) := by
  rw [List.take_succ_eq_append_getElem (by rw [fixI_length]; exact hk)]; simp [fixI]
theorem fixI_over (q u : Nat) [NeZero q] (ts : List (List Int)) (d : Nat) (r : Fin q) (hu : u ≤ 12) : Over (fixI q (2 ^ u) ts d r) u := fun l hl => by
  obtain ⟨j, _, rfl⟩ := List.mem_map.1 hl
  exact ⟨hu, by rw [List.length_map, fixL_length]⟩
theorem fixI_i64 (q h : Nat) [NeZero q] (hq : q ≤ 2147483647) (ts : List (List Int)) (d : Nat) (r : Fin q) : ∀ l ∈ fixI q h ts d r, ∀ x ∈ l, I64 x := fun l hl => by
  obtain ⟨j, _, rfl⟩ := List.mem_map.1 hl
  exact fun x hx => by obtain ⟨y, _, rfl⟩ := List.mem_map.1 hx; exact i64_fv _ hq
theorem fixI_tot (q h : Nat) [NeZero q] (ts : List (List Int)) (d : Nat) (r : Fin q) : totP d h (tabOf q (fixI q h ts d r)) = totP d h (fixT h (tabOf q ts) r) := by
  refine sumT_congr fun i _ => prodT_congr fun j hj => ?_
  have e : tabOf q (fixI q h ts d r) j = fixL h (tabOf q ts j) r := by
    unfold tabOf fixI
    rw [List.getD_eq_getElem?_getD, List.getElem?_map, List.getElem?_range hj]
    simp only [Option.map_some, Option.getD_some]
    rw [els_fvs]
    rfl
  rw [e]; rfl

theorem OwnR.below {w w' : World} {base : Nat} {v : Value} {us : List Value} (h : OwnR w base v us) (hb : Below w.heap.size w w') : OwnR w' base v us := by
  rcases h.2 with h0 | ⟨g, cap, cur, e, h1, hg, h2⟩
  · exact ⟨h.1, .inl h0⟩
  · have hlt : g < w.heap.size := (World.ownsRow.lt h g (by rw [e]; rfl)).2
    exact ⟨h.1, .inr ⟨g, cap, cur, e, h1, (hb.block g hlt).trans hg, h2⟩⟩
theorem Fld.drewR {w : World} {S b p : Nat} [NeZero p] (h : Fld w S b p) : Fld w.drew S b p := ⟨h.prime, h.three, h.max, h.lt, h.le, h.c0, h.c1, h.c2⟩
/-- rows of one's own are made -/
def MadeRows (ls : List (List Int)) (w : World) (e : Ending) (w' : World) : Prop :=
  ∃ v us, e = .returned v ∧ OwnR w' w.heap.size v us ∧ RowsOwn w' w.heap.size us ls ∧ Below w.heap.size w w'
def FixRel (q h : Nat) [NeZero q] (ts : List (List Int)) (d : Nat) (r : Fin q) (w4 : World) (v i : Value) (wr : World) : Prop :=
  ∃ (k : Nat) (us : List Value), k ≤ d ∧ i = vi k ∧ OwnR wr w4.heap.size v us ∧ RowsOwn wr w4.heap.size us ((fixI q h ts d r).take k) ∧ Below w4.heap.size w4 wr
theorem fixI_len (q h : Nat) [NeZero q] (ts : List (List Int)) (d : Nat) (r : Fin q) : ∀ t ∈ fixI q h ts d r, t.length = h := fun l hl => by
  obtain ⟨j, _, rfl⟩ := List.mem_map.1 hl
  rw [List.length_map, fixL_length]
/-- the values of a round's polynomial at 0 .. d -/
def roundL (q h : Nat) [NeZero q] (ts : List (List Int)) (d : Nat) : List (Fin q) := (List.range (d + 1)).map fun (i : Nat) => totP d h (fixT h (tabOf q ts) (el q (i : Int)))
theorem roundL_length (q h : Nat) [NeZero q] (ts : List (List Int)) (d : Nat) : (roundL q h ts d).length = d + 1 := by simp [roundL]
theorem roundL_take (q h : Nat) [NeZero q] (ts : List (List Int)) (d k : Nat) (hk : k < d + 1) : (fvs (roundL q h ts d)).take k ++ [fv (totP d h (fixT h (tabOf q ts) (el q (k : Int))))] = (fvs (roundL q h ts d)).take (k + 1) := by
  rw [List.take_succ_eq_append_getElem (by rw [List.length_map, roundL_length]; exact hk)]; simp [roundL]
end Go.Proofs.YtijhajkakmohnaaGreatDoor

/- Walks: tree.root, tree.Root. -/
set_option linter.unusedVariables false
namespace Go.Proofs.YtijhajkakmohnaaGreatDoor
open Go.RowKit Zp
/-- the rows by their places -/
def rowF (rs : List (List Int)) (i : Nat) : List Int := rs.getD i []
theorem rowF_at {rs : List (List Int)} {i : Nat} (h : i < rs.length) : rowF rs i = rs[i] := by simp [rowF, h]
/-- a digest is handed back, that lies in a block of its own -/
def RootIs (l : List Int) (w : World) (e : Ending) (w' : World) : Prop :=
  ∃ g : Nat, e = .returned (.slice (some ⟨g, 0, none⟩) 4 4) ∧ (∃ cs, Blk w' g 142 cs) ∧ SL w' (some ⟨g, 0, none⟩) l ∧ l.length = 4 ∧ (∀ x ∈ l, I64 x) ∧ w.heap.size ≤ g ∧ Below w.heap.size w w'
theorem HashIs.root {p k : Nat} [NeZero p] (hm : p ≤ 2147483647) {l : List Int} {w w' : World} {e : Ending} (h : HashIs (digE p k l) w e w') : RootIs (digL p k l) w e w' := by
  obtain ⟨g, h1, h2, h3, h4⟩ := h
  exact ⟨g, h1, ⟨_, h2⟩, dig_sl h2, digL_len _ _, i64_digL hm l, h3, h4⟩
theorem RootIs.from {l : List Int} {w0 w w' : World} {e : Ending} (h : RootIs l w e w') (hb : Below w0.heap.size w0 w) : RootIs l w0 e w' := by
  obtain ⟨g, h1, h2, h3, h4, h5, h6, h7⟩ := h
  exact ⟨g, h1, h2, h3, h4, h5, Nat.le_trans hb.size h6, hb.trans (h7.mono hb.size)⟩
set_option maxRecDepth 100000 in
set_option maxHeartbeats 4000000 in
theorem troot_one (p S b s k z : Nat) [NeZero p] (oo : Nat → Nat → Fin p) (A : Option Addr) (N c : Nat) (rs : List (List Int)) (hN : rs.length = N) (hN2 : N ≤ 65536) (hR : ∀ l ∈ rs, l.length * 8 + 80 ≤ 140737488355328)
    (a : Nat) (ha : a + 1 ≤ N) (w : World) (F : Fld w S b p) (G : Spg w s b k z oo) (hT : TB w A rs) :
    Calls Tryz.prog 37 #[.pointer (some ⟨s, 0, none⟩), .slice A N c, Gp a (a + 1)] w (RootIs (rootD (digL p k) (rowF rs) a 1) w) := by
  have hal : a < rs.length := by omega
  have hsl := block_lt_of_cell G.c0
  obtain ⟨ad, A1, n1, c1, rfl, hb1, hc1, hl1, hn1, hs1, hi1⟩ := hT a hal
  have hrl := hR _ (List.getElem_mem hal)
  rw [rootD_one _ _ _ (by omega), rowF_at hal]
  generalize rs[a] = row at hl1 hs1 hi1 hrl
  have hB0 : Below w.heap.size w (w.alloc (.cells #[vi a, vi ((a : Int) + 1)] 92)) := (Below.refl _ _).alloc (Nat.le_refl _) _
  obtain ⟨W, hW⟩ : ∃ W, W = w.alloc (.cells #[vi a, vi ((a : Int) + 1)] 92) := ⟨_, rfl⟩
  have hB := Blk.new w 92 #[vi a, vi ((a : Int) + 1)]
  rw [← hW] at hB hB0
  have hc1W := (hB0.cell (p := ad.add a) hb1).trans hc1
  have e0 := (hB.cell 0).trans (show _ = some (vi a) from rfl)
  have e1 := (hB.cell 1).trans (show _ = some (vi ((a : Int) + 1)) from rfl)
  have hb2 : Below W.heap.size W (W.alloc (.cells #[.slice A1 n1 c1] 22)) := (Below.refl _ _).alloc (Nat.le_refl _) _
  have hj := joined_any 0 (some ⟨W.heap.size, 0, none⟩) 1 1 [row] rfl (by omega) (by simp; omega) (W.alloc (.cells #[.slice A1 n1 c1] 22)) (tb_lit1 (hs1.below hB0) hl1 hn1 hi1)
  rw [show [row].flatten = row by simp, show W.heap.size = w.heap.size + 1 by rw [hW]; simp] at hj
  have HJ := Lib.hid hj
  have HB2 := Lib.hid (hB0.trans (hb2.mono hB0.size))
  have HH := Lib.hid (fun W' A' n' c' (hl : (0 :: row).length = n') (F : Fld W' S b p) (G : Spg W' s b k z oo) (hs : SL W' A' (0 :: row)) => hash_any p S b s k z oo A' n' c' (0 :: row) hl (by
    intro x hx
    rcases List.mem_cons.1 hx with rfl | hx
    · constructor <;> omega
    · exact hi1 x hx) (by rw [← hl, List.length_cons]; omega) W' F G hs)
  have HF := Lib.hid F
  have HG := Lib.hid G
  rw [hW] at HJ HB2 hc1W e0 e1
  have a0 : (0 : Int) ≤ (a : Int) := by omega
  have a1 : (a : Int) < (N : Int) := by omega
  have hpm := F.max
  clear hB0 hB hb2 hj hW W F G hT hs1 hi1 hrl hR hN hal
  go_enter Tryz.func37, Tryz.ntmps37
  go_wp2_with fail
  refine HJ.out.mono ?_
  rintro _ w2 ⟨v2, rfl, ho2, hb2⟩
  obtain ⟨A2, n2, c2, rfl, hl2, _, _, hs2⟩ := ho2.shapeN
  have hb := HB2.out.trans (hb2.mono HB2.out.size)
  have HX := Lib.hid ((HH.out w2 A2 n2 c2 hl2 (HF.out.below hb HF.out.le) (HG.out.below hb hsl) hs2).mono fun e w' h => (h.root hpm).from hb)
  clear hl2 ho2 hb2 hs2 hb
  go_wp2_with fail
  refine HX.out.mono ?_
  rintro _ w3 ⟨g, rfl, h1, h2, h3, h4, h5, h6⟩
  go_wp2
  go_ret
  exact ⟨g, rfl, h1, h2, h3, h4, h5, h6⟩
set_option maxRecDepth 100000 in
set_option maxHeartbeats 400000 in
theorem troot_any (p S b s k z : Nat) [NeZero p] (oo : Nat → Nat → Fin p) (A : Option Addr) (N c : Nat) (rs : List (List Int)) (hN : rs.length = N) (hN2 : N ≤ 65536) (hR : ∀ l ∈ rs, l.length * 8 + 80 ≤ 140737488355328) :
    ∀ (m a : Nat), 1 ≤ m → a + m ≤ N → ∀ (w : World), Fld w S b p → Spg w s b k z oo → TB w A rs →
    Calls Tryz.prog 37 #[.pointer (some ⟨s, 0, none⟩), .slice A N c, Gp a (a + m)] w (RootIs (rootD (digL p k) (rowF rs) a m) w) := by
  intro m
  induction m using Nat.strongRecOn with
  | ind m ih =>
    intro a h1 ha w F G hT
    by_cases h2 : 2 ≤ m
    · have hlf := leftN_lt h2
      rw [rootD_two _ _ _ h2]
      have hsl := block_lt_of_cell G.c0
      have hb1 : Below w.heap.size w (w.alloc (.cells #[vi a, vi ((a : Int) + m)] 92)) := (Below.refl _ _).alloc (Nat.le_refl _) _
      have hh := halves_any a m h2 (by omega) (w.alloc (.cells #[vi a, vi ((a : Int) + m)] 92))
      have HH := Lib.hid hh
      have HB1 := Lib.hid hb1
      clear hh hb1
      obtain ⟨j, hj⟩ : ∃ j, j = leftN m := ⟨_, rfl⟩
      rw [← hj] at hlf HH ⊢
      obtain ⟨hj1, hj2, hj3⟩ := hlf
      have t1 : ((m : Int) == 1) = false := by simp; omega
      clear hj
      go_enter Tryz.func37, Tryz.ntmps37
      go_wp2_with fail
      refine HH.out.mono ?_
      rintro _ w1 ⟨rfl, hb1⟩
      go_wp2_with fail
      have hb01 : Below w.heap.size w w1 := HB1.out.trans (hb1.mono HB1.out.size)
      obtain ⟨q, hq⟩ : ∃ q, q = w1.heap.size := ⟨_, rfl⟩
      obtain ⟨W2, hW2⟩ : ∃ W2, W2 = (w1.alloc (.cells #[vi a, vi ((a : Int) + j)] 92)).alloc (.cells #[vi ((a : Int) + j), vi ((a : Int) + m)] 92) := ⟨_, rfl⟩
      rw [← hW2, ← hq]
      have hB7 := (Blk.new w1 92 #[vi a, vi ((a : Int) + j)]).alloc (.cells #[vi ((a : Int) + j), vi ((a : Int) + m)] 92)
      have hB8 := Blk.new (w1.alloc (.cells #[vi a, vi ((a : Int) + j)] 92)) 92 #[vi ((a : Int) + j), vi ((a : Int) + m)]
      rw [← hW2, show (w1.alloc (.cells #[vi a, vi ((a : Int) + j)] 92)).heap.size = q + 1 by simp [hq]] at hB8
      rw [← hW2, ← hq] at hB7
      have hb2 : Below w.heap.size w W2 := by rw [hW2]; exact (hb01.alloc hb01.size _).alloc (by have := hb01.size; simp; omega) _
      have HB2 := Lib.hid hb2
      have c70 := (hB7.cell 0).trans (show _ = some (vi a) from rfl)
      have c71 := (hB7.cell 1).trans (show _ = some (vi ((a : Int) + j)) from rfl)
      have c80 := (hB8.cell 0).trans (show _ = some (vi ((a : Int) + j)) from rfl)
      have c81 := (hB8.cell 1).trans (show _ = some (vi ((a : Int) + m)) from rfl)
      have q7 := hB7.lt
      have q8 := hB8.lt
      clear hB7 hB8 hW2 hq hb2 hb1 hb01
      obtain ⟨d1, hd1⟩ : ∃ d, d = rootD (digL p k) (rowF rs) a j := ⟨_, rfl⟩
      obtain ⟨d2, hd2⟩ : ∃ d, d = rootD (digL p k) (rowF rs) (a + j) (m - j) := ⟨_, rfl⟩
      have HD1 := Lib.hid hd1
      have HD2 := Lib.hid hd2
      have I1 := Lib.hid (fun W F G T => by have h := ih j hj1 a hj3 (by omega) W F G T; rw [← hd1] at h; exact h)
      have I2 : Hid (∀ W, Fld W S b p → Spg W s b k z oo → TB W A rs → Calls Tryz.prog 37 #[.pointer (some ⟨s, 0, none⟩), .slice A N c, .agg #[vi ((a : Int) + j), vi ((a : Int) + m)]] W (RootIs d2 W)) := Lib.hid (fun W F G T => by
        have h := ih (m - j) (by omega) (a + j) (by omega) (by omega) W F G T
        rw [← hd2, show a + j + (m - j) = a + m by omega] at h
        simpa [Gp] using h)
      have HJ := Lib.hid (fun (W : World) (g1 g2 : Nat) (l1 : d1.length = 4) (l2 : d2.length = 4) (i1 : ∀ x ∈ d1, I64 x) (i2 : ∀ x ∈ d2, I64 x) (s1 : SL W (some ⟨g1, 0, none⟩) d1) (s2 : SL W (some ⟨g2, 0, none⟩) d2) =>
        joined_any 1 (some ⟨W.heap.size, 0, none⟩) 2 2 [d1, d2] rfl (by omega) (by simp [l1, l2]) (W.alloc (.cells #[.slice (some ⟨g1, 0, none⟩) 4 4, .slice (some ⟨g2, 0, none⟩) 4 4] 22)) (tb_lit2 s1 l1 (by omega) i1 s2 l2 (by omega) i2))
      rw [show [d1, d2].flatten = d1 ++ d2 by simp] at HJ
      have HHs := Lib.hid (fun W' A' n' c' (l1 : d1.length = 4) (l2 : d2.length = 4) (i1 : ∀ x ∈ d1, I64 x) (i2 : ∀ x ∈ d2, I64 x) (hl : (1 :: (d1 ++ d2)).length = n') (F : Fld W' S b p) (G : Spg W' s b k z oo) (hs : SL W' A' (1 :: (d1 ++ d2))) => (hash_any p S b s k z oo A' n' c' (1 :: (d1 ++ d2)) hl (by
        intro x hx
        rcases List.mem_cons.1 hx with rfl | hx
        · constructor <;> omega
        · rcases List.mem_append.1 hx with hx | hx
          · exact i1 x hx
          · exact i2 x hx) (by rw [← hl]; simp [l1, l2]) W' F G hs).mono fun e w' h => h.root F.max)
      have KX : Hid (∀ W', Below W2.heap.size W2 W' → Fld W' S b p ∧ Spg W' s b k z oo ∧ TB W' A rs) := Lib.hid fun W' hb => by
        have hb' := HB2.out.trans (hb.mono HB2.out.size)
        exact ⟨F.below hb' F.le, G.below hb' hsl, hT.below hb'⟩
      have KS : Hid (∀ W', Below W2.heap.size W2 W' → W'.cell? ⟨q, 0, none⟩ = some (vi a) ∧ W'.cell? ⟨q, 1, none⟩ = some (vi ((a : Int) + j)) ∧ W'.cell? ⟨q + 1, 0, none⟩ = some (vi ((a : Int) + j)) ∧ W'.cell? ⟨q + 1, 1, none⟩ = some (vi ((a : Int) + m))) := Lib.hid fun W' hb =>
        ⟨(hb.cell (p := ⟨q, 0, none⟩) q7).trans c70, (hb.cell (p := ⟨q, 1, none⟩) q7).trans c71, (hb.cell (p := ⟨q + 1, 0, none⟩) q8).trans c80, (hb.cell (p := ⟨q + 1, 1, none⟩) q8).trans c81⟩
      have hb22 : Below W2.heap.size W2 W2.drew := below_drewN (Below.refl _ _) 1
      clear hd1 hd2 F G hT ih hR hN c70 c71 c80 c81
      go_region_held3 (fun w' => w'.cell? ⟨q, 0, none⟩ = some (vi a) ∧ w'.cell? ⟨q, 1, none⟩ = some (vi ((a : Int) + j)) ∧ w'.cell? ⟨q + 1, 0, none⟩ = some (vi ((a : Int) + j)) ∧ w'.cell? ⟨q + 1, 1, none⟩ = some (vi ((a : Int) + m)))
        (first | exact KS.out _ (Below.refl _ _) | exact KS.out _ hb22 | exact KS.out _ hb26 | exact KS.out _ hb25 | exact KS.out _ hb24a | exact KS.out _ hb24 | exact KS.out _ hb23)
        ((first
          | (go_at_call 37; (have hx := hb23; clear hx); refine (I2.out _ (KX.out _ hb23).1 (KX.out _ hb23).2.1 (KX.out _ hb23).2.2).mono ?_; rintro _ w4 ⟨g2, rfl, ⟨x2, y2⟩, s2, l2, i2, n2, hb4⟩; have s1' := s1.below hb4; have hb24 := hb23.trans (hb4.mono hb23.size); have hb24a := hb24.alloc hb24.size (.cells #[.slice (some ⟨g1, 0, none⟩) 4 4, .slice (some ⟨g2, 0, none⟩) 4 4] 22); clear y2 hb4 s1)
          | (go_at_call 37; refine (I1.out _ (KX.out _ hb22).1 (KX.out _ hb22).2.1 (KX.out _ hb22).2.2).mono ?_; rintro _ w3 ⟨g1, rfl, ⟨x1, y1⟩, s1, l1, i1, n1, hb3⟩; have hb23 : Below W2.heap.size W2 w3 := hb22.trans (hb3.mono hb22.size); clear y1 hb3)
          | (go_at_call 103; refine (HJ.out w4 g1 g2 l1 l2 i1 i2 s1' s2).mono ?_; rintro _ w5 ⟨v5, rfl, ho5, hb5⟩; obtain ⟨A5, n5, c5, rfl, hl5, _, _, hs5⟩ := ho5.shapeN; have HL5 := Lib.hid hl5; have hb25 := hb24a.trans (hb5.mono hb24a.size); clear hl5 ho5 hb5)
          | (go_at_call 102; refine ((HHs.out w5 A5 n5 c5 l1 l2 i1 i2 HL5.out (KX.out _ hb25).1 (KX.out _ hb25).2.1 hs5)).mono ?_; rintro _ w6 ⟨g6, rfl, ⟨x6, y6⟩, s6, l6, i6, n6, hb6⟩; have hb26 := hb25.trans (hb6.mono hb25.size); clear hb6)))
      have HFIN : Hid (RootIs (digL p k (1 :: (d1 ++ d2))) w (.returned (.slice (some ⟨g6, 0, none⟩) 4 4)) w6) := Lib.hid ⟨g6, rfl, ⟨_, y6⟩, s6, l6, i6, by have := HB2.out.size; have := hb25.size; omega, HB2.out.trans (hb26.mono HB2.out.size)⟩
      clear y6 s6 l6 i6 n6 hb26 hb25 hb24a hb24 hb23 hb22 l1 l2 i1 i2 s1' s2 n1 n2 hs5 HL5 KS KX HHs HJ I1 I2
      go_wp2
      go_ret
      have hfin := HFIN.out
      rw [HD1.out, HD2.out] at hfin
      exact hfin
    · have e : m = 1 := by omega
      subst e
      exact troot_one p S b s k z oo A N c rs hN hN2 hR a ha w F G hT
end Go.Proofs.YtijhajkakmohnaaGreatDoor

/- What a row of a slice of slices weighs at most. -/
set_option linter.unusedVariables false
namespace Go.Proofs.YtijhajkakmohnaaGreatDoor
open Go.RowKit Go.ChangeShapes

theorem weightsAll_mem {H : Type} {P : Program} {e : TypeId} {d : DataW H} {n : Nat} : ∀ {l : List (DataW H)}, d ∈ l → n ∈ d.weights P e → n ∈ DataW.weightsAll P e l
  | x :: l, hd, hn => by
    simp only [DataW.weightsAll, List.mem_append]
    rcases List.mem_cons.1 hd with rfl | h
    · exact .inl hn
    · exact .inr (weightsAll_mem h hn)
theorem sized_row {H : Type} {P : Program} {ts : List TypeId} {ds : List (DataW H)} (h : (DataW.weightsEach P ts ds).all (· ≤ reachBytes) = true) {j : Nat} {t e q : TypeId} {elems spare el sp : List (DataW H)} (ht : ts[j]? = some t) (hd : ds[j]? = some (.slice elems spare)) (hu : P.underlying t = some (.slice e)) (hv : P.underlying e = some (.slice q))
    (hm : .slice el sp ∈ elems) : (el.length + sp.length) * P.bytesOf q ≤ reachBytes := by
  have h1 : (el.length + sp.length) * P.bytesOf q ∈ DataW.weights P e (.slice el sp) := by simp [DataW.weights, hv]
  have h2 := weightsAll_mem hm h1
  have := List.all_eq_true.1 h _ (DataW.weights_mem_each ht hd _ (by simp only [DataW.weights, hu]; exact List.mem_cons_of_mem _ (List.mem_append_left _ h2)))
  simpa using this

theorem bytesI : Tryz.prog.bytesOf 3 = 8 := by kernel_rfl
theorem bytesR : Tryz.prog.bytesOf 22 = 24 := by kernel_rfl
/-- rows that came in, each of a length that memory holds -/
structure ArgMS (w : World) (A : Option Addr) (n c : Nat) (ts : List (List Int)) : Prop where
  m : ArgM w A n c ts
  n24 : n ≤ 5864062014805
  r8 : ∀ t ∈ ts, t.length * 8 ≤ 140737488351232
theorem ArgMS.rows {w : World} {A : Option Addr} {n c : Nat} {ts : List (List Int)} (h : ArgMS w A n c ts) : ∀ t ∈ ts, t.length ≤ 17592186044416 := fun t ht => by have := h.r8 t ht; omega
theorem ArgMS.nil (w : World) : ArgMS w none 0 0 [] := ⟨ArgM.nil _, by omega, by simp⟩
theorem ArgMS.i64 {w : World} {A : Option Addr} {n c : Nat} {ts : List (List Int)} (h : ArgMS w A n c ts) : ∀ t ∈ ts, ∀ x ∈ t, I64 x := fun t ht => by
  obtain ⟨k, hk, rfl⟩ := List.mem_iff_getElem.1 ht
  obtain ⟨_, _, _, _, _, _, _, _, _, _, hi⟩ := h.m.tb k hk
  exact hi
theorem ArgMS.mk_ {H : Type} {tys : List TypeId} {ds : List (DataW H)} (hsz : (DataW.weightsEach Tryz.prog tys ds).all (· ≤ reachBytes) = true) {j : Nat} (ht : tys[j]? = some 23) {w : World} {a : Addr} {len cap : Nat} {A : Nat → Option Addr} {L C : Nat → Nat} {Z : Nat → List Int}
    (hd : ds[j]? = some (.slice ((List.range len).map fun r => Go.Deep.intRow .i64 (A r) (L r) (Z r)) ((List.range (cap - len)).map fun j => Go.Deep.intRow .i64 (A (len + j)) (L (len + j)) (Z (len + j))))) (hl : len ≤ cap) (hm : cap ≤ maxLen)
    (h : ∀ r, r < cap → w.cell? (a.add r) = some (.slice (A r) (L r) (C r)) ∧ L r ≤ C r ∧ C r ≤ maxLen ∧ (Z r).length = C r ∧ (∀ n ∈ Z r, (Lit.int .i64 n).wf = true) ∧ (A r = none → C r = 0) ∧
        ∀ a', A r = some a' → 0 ≤ a'.block ∧ ∀ c, c < C r → w.cell? (a'.add c) = some (.int .i64 ((Z r).getD c 0))) :
    ArgMS w (some a) len cap ((List.range len).map fun r => (Z r).take (L r)) := by
  refine ⟨ArgM.mk_ hl hm h, ?_, fun t hmem => ?_⟩
  · have h1 := sized_slice hsz (j := j) (t := 23) (e := 22) ht hd Tryz.underlying23
    rw [bytesR] at h1
    simp only [List.length_map, List.length_range, reachBytes] at h1
    omega
  · obtain ⟨r, hr, rfl⟩ := List.mem_map.1 hmem
    have hr' := List.mem_range.1 hr
    obtain ⟨_, h2, _, h4, _, h6, _⟩ := h r (by omega)
    rw [List.length_take]
    cases hA : A r with
    | none => have := h6 hA; omega
    | some a' =>
      have hin : DataW.slice (H := H) (lits .i64 ((Z r).take (L r))) (lits .i64 ((Z r).drop (L r))) ∈ (List.range len).map fun r => Go.Deep.intRow .i64 (A r) (L r) (Z r) :=
        List.mem_map.2 ⟨r, hr, by simp only [Go.Deep.intRow, hA]⟩
      have h1 := sized_row hsz (j := j) ht hd Tryz.underlying23 Tryz.underlying22 hin
      rw [bytesI] at h1
      simp only [lits, List.length_map, List.length_take, List.length_drop, reachBytes] at h1
      omega
end Go.Proofs.YtijhajkakmohnaaGreatDoor

/- Walks: same.Copied, Rows, Opened, Openings. -/
set_option linter.unusedVariables false
namespace Go.Proofs.YtijhajkakmohnaaGreatDoor
open Go.RowKit Zp
def CopRel (ts : List (List Int)) (w : World) (v i : Value) (wr : World) : Prop :=
  ∃ (k : Nat) (us : List Value), k ≤ ts.length ∧ i = vi k ∧ OwnR wr w.heap.size v us ∧ RowsOwn wr w.heap.size us (ts.take k) ∧ Below w.heap.size w wr
set_option maxRecDepth 100000 in
set_option maxHeartbeats 2000000 in
theorem copied_any (A : Option Addr) (N c : Nat) (ts : List (List Int)) (hN : ts.length = N) (hN2 : N ≤ 5864062014805) (hR : ∀ t ∈ ts, t.length ≤ 17592186044416) (w : World) (hT : TB w A ts) :
    Calls Tryz.prog 12 #[.slice A N c] w (MadeRows ts w) := by
  have HN := Lib.hid hN
  have HT := Lib.hid hT
  have HR := Lib.hid hR
  have HN2 := Lib.hid hN2
  clear hN hT hR hN2
  go_enter Tryz.func12, Tryz.ntmps12
  go_wp2
  go_loopw [3, 4, 5] (fun v i _ wr => CopRel ts w v i wr) (fun _ i _ _ => N - (intOf i).toNat)
  case atStart => exact ⟨0, [], Nat.zero_le _, rfl, World.ownsRow_nil _ _ _ _, RowsOwn.nil _ _, Below.refl _ _⟩
  case round =>
    obtain ⟨k, us, hk, rfl, hown, hrows, hb⟩ := hrel
    rw [HN.out] at hk
    by_cases hlt : k < N
    · have hkt : k < ts.length := by rw [HN.out]; exact hlt
      obtain ⟨ad, A1, n1, c1, rfl, hb1, hc1, hl1, hn1, hs1, hi1⟩ := (HT.out.below hb) k hkt
      have i1 : (0 : Int) ≤ (k : Int) := by omega
      have i2 : (k : Int) < (N : Int) := by omega
      have hwr : IntKind.i64.wrap ((k : Int) + 1) = (k : Int) + 1 := IntWalk.i64_in _ (by have := HN2.out; omega)
      have hrl := HR.out _ (List.getElem_mem hkt)
      have htk : ts.take (k + 1) = ts.take k ++ [ts[k]] := List.take_succ_eq_append_getElem hkt
      have hs1' : SL wr A1 ts[k] := hs1
      obtain ⟨x, hx⟩ : ∃ x, x = ts[k] := ⟨_, rfl⟩
      rw [← hx] at hl1 hs1' hrl htk
      have hba : Below wr.heap.size wr (wr.alloc (.cells #[] 3)) := (Below.refl _ _).alloc (Nat.le_refl _) _
      have hc1' := (hba.cell (p := ad.add k) hb1).trans hc1
      have ho0 := own_empty wr wr.heap.size (Nat.le_refl _)
      have hus : us.length = k := by rw [hrows.1, List.length_take]; omega
      have HX := Lib.hid htk
      have HL1 := Lib.hid hl1
      have HRL := Lib.hid (show ([] : List Int).length + n1 ≤ 17592186044416 by simp; omega)
      have HS1 := Lib.hid (hs1'.below hba)
      have HO0 := Lib.hid ho0
      have HBA := Lib.hid hba
      have HOW := Lib.hid hown
      have HRW := Lib.hid hrows
      have HB := Lib.hid hb
      have HUS := Lib.hid (show us.length < 5864062014805 by have := HN2.out; omega)
      clear hl1 hn1 hs1 hi1 hrl htk hs1' hx hba ho0 hown hrows hb hus hb1 hkt
      go_wp2_with (first
        | (at_builtin; refine wpList_appA _ rfl _ _ rfl wr.heap.size _ [] A1 n1 c1 x rfl rfl HL1.out HO0.out HS1.out HRL.out (by simp) ?_; intro v2 w2 hg2; have ho2 := hg2.own; have hb2 : Below wr.heap.size wr w2 := hg2.below HBA.out HO0.out (Nat.le_refl _) HBA.out.size; clear hg2; obtain ⟨A2, n2, c2, rfl, hl2, hc2, hm2, hs2⟩ := ho2.shapeN; have hB2 := HB.out.trans (hb2.mono HB.out.size); have hR2 := HRW.out.below hb2; have hW2 := OwnR.below HOW.out hb2; have HL2 := Lib.hid hl2; have ho2' := ho2.more (base' := w.heap.size) HB.out.size; clear hl2 hs2)
        | (at_builtin; refine wpList_appR w2 A2 n2 c2 rfl _ _ rfl w.heap.size _ us rfl rfl hW2 HUS.out hB2.size ?_; intro v3 w3 hg3))
      have hr3 := (hg3.rows hW2 hR2).snoc (ho2'.grown hg3.grown (own_ne ho2' hW2))
      have hown3 := hg3.own
      have hb3 := hg3.below hB2 hW2 (Nat.le_refl _) hB2.size
      rw [show ([] : List Int) ++ x = x from rfl, ← HX.out] at hr3
      exact ⟨⟨k + 1, _, by rw [HN.out]; omega, by go_num, hown3, hr3, hb3⟩, by simp [intOf]; omega⟩
    · have ek : k = N := by omega
      rw [ek, ← HN.out, List.take_length] at hrows
      go_wp2
      go_ret
      exact ⟨_, us, rfl, hown, hrows, hb⟩
end Go.Proofs.YtijhajkakmohnaaGreatDoor

/- Maps whose keys are structs or the like, told by what each key holds: look-up, update, an entry that is laid and then stored into. Of no program. -/
set_option linter.unusedVariables false
namespace Go.Proofs.YtijhajkakmohnaaGreatDoor
open Go.MapKept Go.ChangeMaps

section
variable {P : Program} {k : TypeId}
/-- the entries tell f -/
def Tells (es : Array MapEntry) (f : Value → Option Value) : Prop := ∀ x v, f x = some v ↔ ∃ e ∈ es.toList, e.key = x ∧ e.val = v
/-- block b is a map that holds f -/
def MapIs (P : Program) (k : TypeId) (w : World) (b : Nat) (f : Value → Option Value) : Prop :=
  ∃ (es : Array MapEntry) (clock : Nat), w.heap[b]? = some (.map es clock) ∧ Stamped es clock ∧ (∀ x ∈ es.toList, ∃ l, keyOf P k x.key = some l) ∧ Tells es f
/-- .. but for one key, whose entry bears a stamp -/
def EntIs (P : Program) (k : TypeId) (w : World) (b : Nat) (key : Value) (st : Nat) (f : Value → Option Value) : Prop :=
  ∃ (es : Array MapEntry) (clock : Nat), w.heap[b]? = some (.map es clock) ∧ Stamped es clock ∧ (∀ x ∈ es.toList, ∃ l, keyOf P k x.key = some l) ∧ (∃ e ∈ es.toList, e.born = st ∧ e.key = key) ∧
    ∀ x, x ≠ key → ∀ v, f x = some v ↔ ∃ e ∈ es.toList, e.key = x ∧ e.val = v
theorem MapIs.made (P : Program) (k : TypeId) (w : World) : MapIs P k (w.alloc (.map #[] 0)) w.heap.size (fun _ => none) :=
  ⟨#[], 0, (MapKept.heap_alloc w _).1, stamped_empty 0, by simp, fun x v => by simp⟩
theorem MapIs.lt {w : World} {b : Nat} {f : Value → Option Value} (h : MapIs P k w b f) : b < w.heap.size := by
  obtain ⟨es, clock, hb, _⟩ := h
  exact (Array.getElem?_eq_some_iff.1 hb).1
theorem MapIs.kept {w w' : World} {b : Nat} {f : Value → Option Value} {row : Option Nat} (h : MapIs P k w b f) (hg : w.grownBy w' row) (hne : some b ≠ row) : MapIs P k w' b f := by
  have hlt := h.lt
  obtain ⟨es, clock, hb, r⟩ := h
  exact ⟨es, clock, (hg.block b hlt hne).trans hb, r⟩
theorem MapIs.same {w w' : World} {b : Nat} {f : Value → Option Value} (h : MapIs P k w b f) (hg : w'.heap[b]? = w.heap[b]?) : MapIs P k w' b f := by
  obtain ⟨es, clock, hb, r⟩ := h
  exact ⟨es, clock, hg.trans hb, r⟩
theorem key_unique {es : Array MapEntry} {clock : Nat} (h : Stamped es clock) {x y : MapEntry} (hx : x ∈ es.toList) (hy : y ∈ es.toList) (e : x.key = y.key) : x = y := by
  have hp := ((stamped_iff es clock).1 h).2.2
  obtain ⟨i, hi, rfl⟩ := List.mem_iff_getElem.1 hx
  obtain ⟨j, hj, rfl⟩ := List.mem_iff_getElem.1 hy
  rcases Nat.lt_trichotomy i j with h1 | h1 | h1
  · exact absurd e (List.pairwise_iff_getElem.1 hp i j hi hj h1)
  · subst h1; rfl
  · exact absurd e.symm (List.pairwise_iff_getElem.1 hp j i hj hi h1)
theorem tells_some {es : Array MapEntry} {clock : Nat} (h : Stamped es clock) : ∃ f, Tells es f := by
  refine ⟨fun x => open Classical in if hx : ∃ e ∈ es.toList, e.key = x then some (Classical.choose hx).val else none, fun x v => ?_⟩
  by_cases hx : ∃ e ∈ es.toList, e.key = x
  · simp only [dif_pos hx, Option.some.injEq]
    obtain ⟨h1, h2⟩ := Classical.choose_spec hx
    constructor
    · intro hv; exact ⟨_, h1, h2, hv⟩
    · rintro ⟨e, he, h3, h4⟩
      have := key_unique h h1 he (h2.trans h3.symm)
      rw [this]; exact h4
  · simp only [dif_neg hx, reduceCtorEq, false_iff]
    rintro ⟨e, he, h3, _⟩
    exact hx ⟨e, he, h3⟩
variable (K : Maps.Keyed P k)
include K
/-- m[key] -/
theorem MapIs.look {w : World} {b : Nat} {f : Value → Option Value} (h : MapIs P k w b f) {t e : TypeId} (ht : P.underlying t = some (.map k e)) {z : Value} (hz : (zeroValue e).run P w = .ok z w) {key : Value} {kl : Lit} (hkey : keyOf P k key = some kl) :
    (Instr.lookup t (.map (some b)) key false).run P w = .ok ((f key).getD z) w := by
  obtain ⟨es, clock, hb, hs, hk, hf⟩ := h
  rcases K.find w hkey es.toList hk with ⟨h1, h2⟩ | ⟨j, e0, h1, h2, h3⟩
  · have hn : f key = none := by
      cases hfk : f key with
      | none => rfl
      | some v =>
        obtain ⟨x, hx, h3, _⟩ := (hf key v).1 hfk
        exact absurd h3 (h2 x hx)
    simp [Instr.lookup, run_underlying ht, MapKept.run_getObj_map hb, K.check w _ hkey, h1, hz, hn, Result.andThen]
  · have hn : f key = some e0.val := (hf key _).2 ⟨e0, List.mem_of_getElem? h2, h3, rfl⟩
    simp [Instr.lookup, run_underlying ht, MapKept.run_getObj_map hb, K.check w _ hkey, h1, hn, Result.andThen]
omit K in
theorem block_grown (w : World) (b : Nat) (o : Obj) : w.grownBy (setBlock w b o) (some b) := ⟨rfl, rfl, rfl, by simp [setBlock], fun i _ hi => by
  have hne : b ≠ i := fun e => hi (by rw [e])
  simp [setBlock, hne]⟩
omit K in
theorem mem_push {es : Array MapEntry} {e x : MapEntry} : x ∈ (es.push e).toList ↔ x ∈ es.toList ∨ x = e := by simp
omit K in
theorem mem_mod {es : Array MapEntry} {clock j : Nat} (hs : Stamped es clock) {e0 : MapEntry} (hj : es.toList[j]? = some e0) (v : Value) (x : MapEntry) :
    x ∈ (es.modify j fun e => { e with val := v }).toList ↔ (x ∈ es.toList ∧ x.key ≠ e0.key) ∨ x = { e0 with val := v } := by
  have hjl : j < es.toList.length := (List.getElem?_eq_some_iff.1 hj).1
  have hje : es.toList[j] = e0 := (List.getElem?_eq_some_iff.1 hj).2
  have hp := ((stamped_iff es clock).1 hs).2.2
  rw [Array.toList_modify, List.mem_iff_getElem?]
  constructor
  · rintro ⟨i, hi⟩
    rw [List.getElem?_modify] at hi
    by_cases e : j = i
    · subst e
      rw [hj] at hi
      simp at hi
      exact .inr hi.symm
    · simp only [if_neg e] at hi
      have hi' : es.toList[i]? = some x := by simpa using hi
      refine .inl ⟨List.mem_of_getElem? hi', fun hk => ?_⟩
      have hil : i < es.toList.length := (List.getElem?_eq_some_iff.1 hi').1
      have hie : es.toList[i] = x := (List.getElem?_eq_some_iff.1 hi').2
      rcases Nat.lt_or_ge i j with h1 | h1
      · exact List.pairwise_iff_getElem.1 hp i j hil hjl h1 (by rw [hie, hje]; exact hk)
      · exact List.pairwise_iff_getElem.1 hp j i hjl hil (by omega) (by rw [hie, hje]; exact hk.symm)
  · rintro (⟨hx, hk⟩ | rfl)
    · obtain ⟨i, hi⟩ := List.mem_iff_getElem?.1 hx
      refine ⟨i, ?_⟩
      have hne : j ≠ i := fun e => by subst e; rw [hj] at hi; injection hi with hi; exact hk (by rw [hi])
      simp [hne, hi]
    · exact ⟨j, by simp [hj]⟩
omit K in
theorem stamped_val {es : Array MapEntry} {clock : Nat} (hs : Stamped es clock) (j : Nat) (v : Value) : Stamped (es.modify j fun e => { e with val := v }) clock :=
  stamped_modify hs j _ (fun _ _ => rfl) (fun _ _ _ => rfl)
/-- what a map holds when one key was stored into -/
def Put (f f' : Value → Option Value) (key val : Value) : Prop := f' key = some val ∧ ∀ x, x ≠ key → f' x = f x
omit K in
theorem tells_put {es : Array MapEntry} {clock : Nat} (hs : Stamped es clock) {f : Value → Option Value} {key val : Value} (h1 : ∃ e ∈ es.toList, e.key = key ∧ e.val = val)
    (h2 : ∀ x, x ≠ key → ∀ v, f x = some v ↔ ∃ e ∈ es.toList, e.key = x ∧ e.val = v) : ∃ f', Tells es f' ∧ Put f f' key val := by
  obtain ⟨f', hf⟩ := tells_some hs
  refine ⟨f', hf, (hf key val).2 h1, fun x hx => ?_⟩
  apply Option.ext
  intro v
  rw [hf x v, h2 x hx v]
/-- m[key]'s entry is laid -/
theorem MapIs.entry {w : World} {b : Nat} {f : Value → Option Value} (h : MapIs P k w b f) {t e : TypeId} (ht : P.underlying t = some (.map k e)) {z : Value} (hz : (zeroValue e).run P w = .ok z w) {key : Value} {kl : Lit} (hkey : keyOf P k key = some kl) :
    ∃ v0 st w', (Instr.mapEntry t (.map (some b)) key).run P w = .ok (.tuple #[v0, goInt (st : Nat)]) w' ∧ EntIs P k w' b key st f ∧ w.grownBy w' (some b) := by
  obtain ⟨es, clock, hb, hs, hk, hf⟩ := h
  rcases K.find w hkey es.toList hk with ⟨h1, h2⟩ | ⟨j, e0, h1, h2, h3⟩
  · refine ⟨z, clock, setBlock w b (.map (es.push ⟨key, z, clock⟩) (clock + 1)), ?_, ⟨_, _, heap_setBlock_same hb _, stamped_push hs h2, ?_, ⟨⟨key, z, clock⟩, by simp, rfl, rfl⟩, ?_⟩, block_grown _ _ _⟩
    · simp [Instr.mapEntry, run_underlying ht, MapKept.run_getObj_map hb, K.check w false hkey, h1, hz, MapKept.run_setObj_map _ hb, Result.andThen, setBlock]
    · intro x hx
      rcases mem_push.1 hx with hx | rfl
      · exact hk x hx
      · exact ⟨kl, hkey⟩
    · intro x hx v
      rw [hf x v]
      constructor
      · rintro ⟨e, he, h3⟩; exact ⟨e, mem_push.2 (.inl he), h3⟩
      · rintro ⟨e, he, h3, h4⟩
        rcases mem_push.1 he with he | rfl
        · exact ⟨e, he, h3, h4⟩
        · exact absurd h3.symm hx
  · have hj : es[j]? = some e0 := by simpa using h2
    have hsame : es.modify j (fun e => { e with key := key }) = es := by
      apply Array.ext'
      rw [Array.toList_modify, modify_eq_set _ _ _ _ h2]
      have : ({ e0 with key := key } : MapEntry) = e0 := by rw [← h3]
      rw [this]
      exact Go.WideElems.set_self _ _ _ h2
    refine ⟨e0.val, e0.born, setBlock w b (.map es clock), ?_, ⟨es, clock, heap_setBlock_same hb _, hs, hk, ⟨e0, List.mem_of_getElem? h2, rfl, h3⟩, fun x _ v => hf x v⟩, block_grown _ _ _⟩
    simp [Instr.mapEntry, run_underlying ht, MapKept.run_getObj_map hb, K.check w false hkey, h1, hj, h3, K.stays w hkey, hsame, MapKept.run_setObj_map _ hb, Result.andThen, setBlock]
omit K in
/-- .. and stored into -/
theorem EntIs.store {w : World} {b st : Nat} {key : Value} {f : Value → Option Value} (h : EntIs P k w b key st f) (t : TypeId) (val : Value) :
    ∃ w' f', (Instr.entryStore t (.map (some b)) (goInt (st : Nat)) val).run P w = .ok () w' ∧ MapIs P k w' b f' ∧ Put f f' key val ∧ w.grownBy w' (some b) := by
  obtain ⟨es, clock, hb, hs, hk, ⟨e0, he0, rfl, rfl⟩, hf⟩ := h
  obtain ⟨j, hj⟩ := List.mem_iff_getElem?.1 he0
  have hs' := stamped_val hs j val
  have hmm := mem_mod hs hj val
  obtain ⟨f', hf', hp⟩ := tells_put (f := f) hs' (key := e0.key) (val := val) ⟨{ e0 with val := val }, (hmm _).2 (.inr rfl), rfl, rfl⟩ (fun x hx v => by
    rw [hf x hx v]
    constructor
    · rintro ⟨e, he, h3, h4⟩; exact ⟨e, (hmm e).2 (.inl ⟨he, by rw [h3]; exact hx⟩), h3, h4⟩
    · rintro ⟨e, he, h3, h4⟩
      rcases (hmm e).1 he with ⟨he, _⟩ | rfl
      · exact ⟨e, he, h3, h4⟩
      · exact absurd h3.symm hx)
  refine ⟨setBlock w b (.map (es.modify j fun e => { e with val := val }) clock), f', ?_, ⟨_, _, heap_setBlock_same hb _, hs', ?_, hf'⟩, hp, block_grown _ _ _⟩
  · have hidx : es.findIdx? (fun e => ((e.born : Nat) : Int) == ((e0.born : Nat) : Int)) = some j := by
      rw [Go.WideElems.findIdx_arr]
      exact Go.WideElems.findIdx_born hs.2.1 hj
    simp [Instr.entryStore, MapKept.run_getObj_map hb, asInt, asIntOf, goInt, hidx, MapKept.run_setObj_map _ hb, Result.andThen, setBlock]
  · intro x hx
    rcases (hmm x).1 hx with ⟨hx, _⟩ | rfl
    · exact hk x hx
    · exact hk e0 he0
/-- m[key] = val -/
theorem MapIs.update {w : World} {b : Nat} {f : Value → Option Value} (h : MapIs P k w b f) {t e : TypeId} (ht : P.underlying t = some (.map k e)) {key val : Value} {kl : Lit} (hkey : keyOf P k key = some kl) :
    ∃ w' f', (Instr.mapUpdate t (.map (some b)) key val).run P w = .ok () w' ∧ MapIs P k w' b f' ∧ Put f f' key val ∧ w.grownBy w' (some b) := by
  obtain ⟨es, clock, hb, hs, hk, hf⟩ := h
  rcases K.find w hkey es.toList hk with ⟨h1, h2⟩ | ⟨j, e0, h1, h2, h3⟩
  · have hs' := stamped_push hs (val := val) h2
    obtain ⟨f', hf', hp⟩ := tells_put (f := f) hs' (key := key) (val := val) ⟨⟨key, val, clock⟩, by simp, rfl, rfl⟩ (fun x hx v => by
      rw [hf x v]
      constructor
      · rintro ⟨e, he, h3⟩; exact ⟨e, mem_push.2 (.inl he), h3⟩
      · rintro ⟨e, he, h3, h4⟩
        rcases mem_push.1 he with he | rfl
        · exact ⟨e, he, h3, h4⟩
        · exact absurd h3.symm hx)
    refine ⟨setBlock w b (.map (es.push ⟨key, val, clock⟩) (clock + 1)), f', ?_, ⟨_, _, heap_setBlock_same hb _, hs', ?_, hf'⟩, hp, block_grown _ _ _⟩
    · simp [Instr.mapUpdate, run_underlying ht, MapKept.run_getObj_map hb, K.check w false hkey, h1, MapKept.run_setObj_map _ hb, Result.andThen, setBlock]
    · intro x hx
      rcases mem_push.1 hx with hx | rfl
      · exact hk x hx
      · exact ⟨kl, hkey⟩
  · subst h3
    have hj : es[j]? = some e0 := by simpa using h2
    have hsame : es.modify j (fun e => { e with key := e0.key, val := val }) = es.modify j (fun e => { e with val := val }) := by
      apply Array.ext'
      rw [Array.toList_modify, Array.toList_modify, modify_eq_set _ _ _ _ h2, modify_eq_set _ _ _ _ h2]
    have hs' := stamped_val hs j val
    have hmm := mem_mod hs h2 val
    obtain ⟨f', hf', hp⟩ := tells_put (f := f) hs' (key := e0.key) (val := val) ⟨{ e0 with val := val }, (hmm _).2 (.inr rfl), rfl, rfl⟩ (fun x hx v => by
      rw [hf x v]
      constructor
      · rintro ⟨e, he, h3, h4⟩; exact ⟨e, (hmm e).2 (.inl ⟨he, by rw [h3]; exact hx⟩), h3, h4⟩
      · rintro ⟨e, he, h3, h4⟩
        rcases (hmm e).1 he with ⟨he, _⟩ | rfl
        · exact ⟨e, he, h3, h4⟩
        · exact absurd h3.symm hx)
    refine ⟨setBlock w b (.map (es.modify j fun e => { e with val := val }) clock), f', ?_, ⟨_, _, heap_setBlock_same hb _, hs', ?_, hf'⟩, hp, block_grown _ _ _⟩
    · simp [Instr.mapUpdate, run_underlying ht, MapKept.run_getObj_map hb, K.check w false hkey, h1, hj, K.stays w hkey, hsame, MapKept.run_setObj_map _ hb, Result.andThen, setBlock]
    · intro x hx
      rcases (hmm x).1 hx with ⟨hx, _⟩ | rfl
      · exact hk x hx
      · exact hk e0 (List.mem_of_getElem? h2)
end
end Go.Proofs.YtijhajkakmohnaaGreatDoor

/- Groups of rows as keys of maps. -/
set_option linter.unusedVariables false
namespace Go.Proofs.YtijhajkakmohnaaGreatDoor
open Go.RowKit Zp
theorem gk_at : Tryz.prog.keyTypeAt 3 92 = true := by kernel_rfl
theorem gk_row : 92 < Tryz.prog.types.size := of_decide_eq_true (by kernel_rfl)
theorem gk_laid : laidOutB Tryz.prog = true := by kernel_rfl
theorem keyed_group : Maps.Keyed Tryz.prog 92 :=
  Maps.Keyed.of_law (deep_law_laid (P := Tryz.prog) gk_laid (m := 3) (by omega) gk_row gk_at (by rw [Tryz.underlying92]))
theorem gk_type : Tryz.prog.keyType 92 = true := by kernel_rfl
theorem gk_cells : Tryz.prog.cellsOf 92 = 2 := by kernel_rfl
theorem gk_int : Tryz.prog.cellsOf 3 = 1 := by kernel_rfl
theorem gk_size : ∃ m, Tryz.prog.types.size = m + 1 := ⟨Tryz.prog.types.size - 1, by have := gk_row; omega⟩
theorem key_group {x y : Int} (hx : I64 x) (hy : I64 y) : ∃ l, keyOf Tryz.prog 92 (.agg #[vi x, vi y]) = some l := by
  have wx : (Lit.int .i64 x).wf = true := by simp [Lit.wf, IntKind.min, IntKind.max, IntKind.signed, IntKind.bits]; omega
  have wy : (Lit.int .i64 y).wf = true := by simp [Lit.wf, IntKind.min, IntKind.max, IntKind.signed, IntKind.bits]; omega
  have h0 := gk_type
  have h1 := gk_cells
  have h2 := gk_int
  obtain ⟨m, hm⟩ := gk_size
  refine ⟨.string (keyBytes [.int .i64 x, .int .i64 y]), ?_⟩
  unfold keyOf
  simp only [Tryz.underlying92]
  rw [if_pos (by simp [h0, Value.formed, Tryz.underlying92, h1]), hm]
  unfold Program.keyLits
  simp only [Tryz.underlying92, Value.cells]
  rw [if_pos (by refine ⟨by rw [h1]; rfl, by kernel_rfl⟩)]
  simp [h2, Program.keyLits, Tryz.underlying3, wx, wy, List.mapM_cons, List.mapM_nil]
theorem key_gp {a c : Nat} (hc : a ≤ 65536 ∧ c ≤ 65536) : ∃ l, keyOf Tryz.prog 92 (Gp a c) = some l := key_group ⟨by omega, by omega⟩ ⟨by omega, by omega⟩
theorem gp_inj {a c a' c' : Nat} (h : Gp a c = Gp a' c') : a = a' ∧ c = c' := by
  simp [Gp] at h
  omega
end Go.Proofs.YtijhajkakmohnaaGreatDoor

/- Walks: tree.Root; tree.hidden, with whatever function it is handed. -/
set_option linter.unusedVariables false
namespace Go.Proofs.YtijhajkakmohnaaGreatDoor
open Go.RowKit Zp
set_option maxRecDepth 100000 in
set_option maxHeartbeats 2000000 in
theorem tRoot_no (s A : Option Addr) (N c : Nat) (hN : rightB N = false) (hmx : N ≤ 9223372036854775807) (w : World) :
    Calls Tryz.prog 13 #[.pointer s, .slice A N c] w fun e w' => e = .returned (.tuple #[.slice none 0 0, .iface 89 (vi 2)]) ∧ w = w' := by
  have HR := Lib.hid (fun w => right_any (N : Int) w)
  go_enter Tryz.func13, Tryz.ntmps13
  go_wp2_with fail
  refine (HR.out _).mono ?_
  rintro e w' ⟨rfl, rfl⟩
  rw [hN]
  clear hN
  go_wp2
  go_ret2
  exact ⟨rfl, rfl⟩
/-- the root of rows, and no error -/
def TRootIs (l : List Int) (w : World) (e : Ending) (w' : World) : Prop :=
  ∃ g : Nat, e = .returned (.tuple #[.slice (some ⟨g, 0, none⟩) 4 4, .nilIface]) ∧ (∃ cs, Blk w' g 142 cs) ∧ SL w' (some ⟨g, 0, none⟩) l ∧ l.length = 4 ∧ (∀ x ∈ l, I64 x) ∧ w.heap.size ≤ g ∧ Below w.heap.size w w'
set_option maxRecDepth 100000 in
set_option maxHeartbeats 2000000 in
theorem tRoot_yes (p S b s k z : Nat) [NeZero p] (oo : Nat → Nat → Fin p) (A : Option Addr) (N c : Nat) (rs : List (List Int)) (hN : rs.length = N) (h1 : 1 ≤ N) (hN2 : N ≤ 65536) (hR : ∀ l ∈ rs, l.length * 8 + 80 ≤ 140737488355328)
    (w : World) (F : Fld w S b p) (G : Spg w s b k z oo) (hT : TB w A rs) :
    Calls Tryz.prog 13 #[.pointer (some ⟨s, 0, none⟩), .slice A N c] w (TRootIs (rootD (digL p k) (rowF rs) 0 N) w) := by
  have HR := Lib.hid (fun w => right_any (N : Int) w)
  have HB := Lib.hid (show rightB (N : Int) = true from decide_eq_true (by constructor <;> omega))
  have h := troot_any p S b s k z oo A N c rs hN hN2 hR N 0 h1 (by omega) w F G hT
  rw [show (0 + N) = N by omega] at h
  have HT := Lib.hid h
  clear h hT F G hR hN
  go_enter Tryz.func13, Tryz.ntmps13
  go_wp2_with fail
  refine (HR.out _).mono ?_
  rintro e w' ⟨rfl, rfl⟩
  rw [HB.out]
  go_wp2_with fail
  refine (HT.out).mono ?_
  rintro _ w1 ⟨g, rfl, h1, h2, h3, h4, h5, h6⟩
  have HFIN : Hid (TRootIs (rootD (digL p k) (rowF rs) 0 N) w (.returned (.tuple #[.slice (some ⟨g, 0, none⟩) 4 4, .nilIface])) w1) := Lib.hid ⟨g, rfl, h1, h2, h3, h4, h5, h6⟩
  clear h1 h2 h3 h4 h5 h6 HT HR HB
  go_wp2
  go_ret2
  exact HFIN.out
theorem SL.farO {w w' : World} {A : Option Addr} {xs : List Int} {g : Nat} (h : SL w A xs) (hg : w.grownBy w' (some g)) (hne : ∀ ad, A = some ad → xs ≠ [] → ad.block ≠ g) : SL w' A xs := by
  by_cases hx : xs = []
  · subst hx
    exact SL.nil
  · cases A with
    | none =>
      rcases Nat.eq_zero_or_pos xs.length with h0 | h0
      · exact absurd (List.length_eq_zero_iff.1 h0) hx
      · obtain ⟨ad, h1, _⟩ := h.at_ h0
        cases h1
    | some ad => exact h.far hg (hne ad rfl hx)
theorem grownBy_below {w w' : World} {row : Option Nat} (h : Below w.heap.size w w') : w.grownBy w' row := grown_of_below h row
set_option maxRecDepth 100000 in
set_option maxHeartbeats 1000000 in
theorem hidden_any (K : Nat) (hK : ∀ (args : Array Value) (w : World), (callFunc K args).run Tryz.prog w = .ok (.enter K args) w) (caps : Array Value) (g0 : Nat) (A0 : Option Addr) (n c : Nat) (l : List Int) (hadg : ∀ ad, A0 = some ad → l ≠ [] → ad.block ≠ g0) (hml : l.length = n) (hn : n ≤ 65536) (hup : Asc l)
    (J : List (Nat × Nat) → World → Prop) (hJ : ∀ pre W W', J pre W → Below W.heap.size W W' → J pre W')
    (hY : ∀ (pre : List (Nat × Nat)) (a m : Nat) (W : World), J pre W → 1 ≤ m → a + m ≤ 65536 → Calls Tryz.prog K (#[.agg #[vi (a : Int), vi ((a : Int) + (m : Int))]] ++ caps) W fun e W' => (∃ r, e = .returned r) ∧ J (pre ++ [(a, m)]) W' ∧ W.grownBy W' (some g0)) :
    ∀ (m a : Nat), 1 ≤ m → a + m ≤ 65536 → ∀ (pre : List (Nat × Nat)) (w : World), J pre w → SL w A0 l → g0 < w.heap.size →
    Calls Tryz.prog 46 #[Gp a (a + m), .slice A0 n c, .func (.func K) #[] caps] w fun e w' => (∃ r, e = .returned r) ∧ J (pre ++ hidL l a m) w' ∧ w.grownBy w' (some g0) := by
  intro m
  induction m using Nat.strongRecOn with
  | ind m ih =>
    intro a h1 ha pre w hj hs hg0
    have hb1 : Below w.heap.size w (w.alloc (.cells #[vi a, vi ((a : Int) + m)] 92)) := (Below.refl _ _).alloc (Nat.le_refl _) _
    have hB := Blk.new w 92 #[vi a, vi ((a : Int) + m)]
    have HSH := Lib.hid (shows_any A0 n c l hml hn hup a m ha _ (hs.below hb1))
    have HB1 := Lib.hid hb1
    by_cases hsh : shownB l a m = true
    · have HS0 := Lib.hid hsh
      by_cases h2 : 2 ≤ m
      · have hlf := leftN_lt h2
        have HHL := Lib.hid (show hidL l a m = hidL l a (leftN m) ++ hidL l (a + leftN m) (m - leftN m) by rw [hidL, if_pos hsh, dif_pos h2])
        have HH := Lib.hid (fun w => halves_any a m h2 (by omega) w)
        obtain ⟨j, hj'⟩ : ∃ j, j = leftN m := ⟨_, rfl⟩
        rw [← hj'] at hlf HH HHL
        obtain ⟨hj1, hj2, hj3⟩ := hlf
        have I1 := Lib.hid (fun W (x : J pre W) y z => ih j hj1 a hj3 (by omega) pre W x y z)
        have I2 : Hid (∀ W, J (pre ++ hidL l a j) W → SL W A0 l → g0 < W.heap.size → Calls Tryz.prog 46 #[.agg #[vi ((a : Int) + j), vi ((a : Int) + m)], .slice A0 n c, .func (.func K) #[] caps] W fun e w' => (∃ r, e = .returned r) ∧ J ((pre ++ hidL l a j) ++ hidL l (a + j) (m - j)) w' ∧ W.grownBy w' (some g0)) := Lib.hid (fun W x y z => by
          have h := ih (m - j) (by omega) (a + j) (by omega) (by omega) (pre ++ hidL l a j) W x y z
          rw [show a + j + (m - j) = a + m by omega] at h
          simpa [Gp] using h)
        have t1 : decide (1 < (m : Int)) = true := by simp; omega
        have t2 : decide ((1 : Int) < (a : Int) + (m : Int) - (a : Int)) = true := by simp; omega
        have HJ := Lib.hid hj
        have HJB := Lib.hid hJ
        have HBB := Lib.hid hB
        have HSS := Lib.hid hs
        clear hsh hB hb1 ih hJ hY hup hml hj hj' hs
        go_enter Tryz.func46, Tryz.ntmps46
        go_wp2_with fail
        refine HSH.out.mono ?_
        rintro e w2 ⟨rfl, hb2⟩
        rw [HS0.out]
        have hB2 := Blk.below HBB.out hb2 HBB.out.lt
        have e0 := (hB2.cell 0).trans (show _ = some (vi a) from rfl)
        have e1 := (hB2.cell 1).trans (show _ = some (vi ((a : Int) + m)) from rfl)
        have hb02 := HB1.out.trans (hb2.mono HB1.out.size)
        have HB02 := Lib.hid hb02
        clear hB2 hb2 hb02
        go_wp2_with fail
        refine (HH.out w2).mono ?_
        rintro _ w3 ⟨rfl, hb3⟩
        have hb03 := HB02.out.trans (hb3.mono HB02.out.size)
        have HB03 := Lib.hid hb03
        clear e0 e1 hb3 hb03
        go_wp2_with fail
        obtain ⟨q, hq⟩ : ∃ q, q = w3.heap.size := ⟨_, rfl⟩
        obtain ⟨W4, hW4⟩ : ∃ W4, W4 = (w3.alloc (.cells #[vi a, vi ((a : Int) + j)] 92)).alloc (.cells #[vi ((a : Int) + j), vi ((a : Int) + m)] 92) := ⟨_, rfl⟩
        rw [← hW4]
        have hB7 := (Blk.new w3 92 #[vi a, vi ((a : Int) + j)]).alloc (.cells #[vi ((a : Int) + j), vi ((a : Int) + m)] 92)
        have hB8 := Blk.new (w3.alloc (.cells #[vi a, vi ((a : Int) + j)] 92)) 92 #[vi ((a : Int) + j), vi ((a : Int) + m)]
        rw [← hW4, show (w3.alloc (.cells #[vi a, vi ((a : Int) + j)] 92)).heap.size = q + 1 by simp [hq]] at hB8
        rw [← hW4, ← hq] at hB7
        have hb4 : Below w.heap.size w W4 := by rw [hW4]; exact (HB03.out.alloc HB03.out.size _).alloc (by have := HB03.out.size; simp; omega) _
        have hqs := HB03.out.size
        rw [← hq] at hqs ⊢
        clear hW4 hq
        refine (I1.out W4 (HJB.out _ _ _ HJ.out hb4) (HSS.out.below hb4) (by have := hb4.size; omega)).mono ?_
        rintro _ w5 ⟨⟨r5, rfl⟩, hj5, hg5⟩
        have hB8' := Blk.grown hB8 hg5 (by intro e; injection e with e; omega)
        have e0 := (hB8'.cell 0).trans (show _ = some (vi ((a : Int) + j)) from rfl)
        have e1 := (hB8'.cell 1).trans (show _ = some (vi ((a : Int) + m)) from rfl)
        have hs5 : SL w5 A0 l := (HSS.out.below hb4).farO hg5 hadg
        have HJ5 := Lib.hid hj5
        have HG5 := Lib.hid (grownBy_trans (grown_of_below hb4 (some g0)) hg5)
        have HX := Lib.hid (I2.out w5 hj5 hs5 (by have := HG5.out.size; omega))
        clear hB7 hB8 hB8' hj5 hg5 hs5 hb4 I1 I2 HJ
        go_wp2_with fail
        refine HX.out.mono ?_
        rintro _ w6 ⟨⟨r6, rfl⟩, hj6, hg6⟩
        have HFIN : Hid (J (pre ++ hidL l a m) w6 ∧ w.grownBy w6 (some g0)) := Lib.hid ⟨by rw [HHL.out, ← List.append_assoc]; exact hj6, grownBy_trans HG5.out hg6⟩
        clear hj6 hg6 HX e0 e1
        go_wp2
        go_end0
        exact ⟨⟨_, rfl⟩, HFIN.out.1, HFIN.out.2⟩
      · have e : m = 1 := by omega
        subst e
        have HHL := Lib.hid (show hidL l a 1 = [] by rw [hidL, if_pos hsh, dif_neg h2])
        have HJ := Lib.hid hj
        have HJB := Lib.hid hJ
        have HBB := Lib.hid hB
        clear hsh hB hb1 ih hJ hY hup hml hj
        go_enter Tryz.func46, Tryz.ntmps46
        go_wp2_with fail
        refine HSH.out.mono ?_
        rintro e w2 ⟨rfl, hb2⟩
        rw [HS0.out]
        have hB2 := Blk.below HBB.out hb2 HBB.out.lt
        have e0 := (hB2.cell 0).trans (show _ = some (vi a) from rfl)
        have e1 := (hB2.cell 1).trans (show _ = some (vi ((a : Int) + 1)) from rfl)
        have hb02 := HB1.out.trans (hb2.mono HB1.out.size)
        have HFIN : Hid (J (pre ++ hidL l a 1) w2 ∧ w.grownBy w2 (some g0)) := Lib.hid ⟨by rw [HHL.out, List.append_nil]; exact HJB.out _ _ _ HJ.out hb02, grown_of_below hb02 _⟩
        clear hB2 hb2 hb02
        go_wp2
        go_end0
        exact ⟨⟨_, rfl⟩, HFIN.out.1, HFIN.out.2⟩
    · have HS0 := Lib.hid (show shownB l a m = false by simpa using hsh)
      have HHL := Lib.hid (show hidL l a m = [(a, m)] by rw [hidL, if_neg hsh])
      have HYY := Lib.hid (fun W h => hY pre a m W h h1 ha)
      have HJ := Lib.hid hj
      have HJB := Lib.hid hJ
      have HBB := Lib.hid hB
      clear hsh hB hb1 ih hJ hY hup hml hj
      go_enter Tryz.func46, Tryz.ntmps46
      go_wp2_with fail
      refine HSH.out.mono ?_
      rintro e w2 ⟨rfl, hb2⟩
      rw [HS0.out]
      have hB2 := Blk.below HBB.out hb2 HBB.out.lt
      have e0 := (hB2.cell 0).trans (show _ = some (vi a) from rfl)
      have e1 := (hB2.cell 1).trans (show _ = some (vi ((a : Int) + m)) from rfl)
      have hb02 := HB1.out.trans (hb2.mono HB1.out.size)
      have HB02 := Lib.hid hb02
      clear hB2 hb2 hb02
      go_wp2_with fail
      refine (HYY.out w2 (HJB.out _ _ _ HJ.out HB02.out)).mono ?_
      rintro _ w3 ⟨⟨r3, rfl⟩, hj3, hg3⟩
      have HFIN : Hid (J (pre ++ hidL l a m) w3 ∧ w.grownBy w3 (some g0)) := Lib.hid ⟨by rw [HHL.out]; exact hj3, grownBy_trans (grown_of_below HB02.out _) hg3⟩
      clear hj3 hg3 e0 e1
      go_wp2
      exact bodyPost_ret (results_none rfl _ _ _) rfl ⟨⟨_, rfl⟩, HFIN.out.1, HFIN.out.2⟩
end Go.Proofs.YtijhajkakmohnaaGreatDoor

/- What was worked out of an Opening, in memory: a struct of two maps keyed by groups. -/
set_option linter.unusedVariables false
namespace Go.Proofs.YtijhajkakmohnaaGreatDoor
open Go.RowKit Zp Go.MapKept Go.ChangeMaps
/-- nothing that was there is turned but two blocks -/
structure GrowM (w w' : World) (c m : Nat) : Prop where
  os : w'.os = w.os
  tape : w'.tape = w.tape
  output : w'.output = w.output
  size : w.heap.size ≤ w'.heap.size
  block : ∀ x, x < w.heap.size → x ≠ c → x ≠ m → w'.heap[x]? = w.heap[x]?
section
variable {a b d : World} {c m B : Nat}
theorem GrowM.refl (w : World) (c m : Nat) : GrowM w w c m := ⟨rfl, rfl, rfl, Nat.le_refl _, fun _ _ _ _ => rfl⟩
theorem GrowM.trans (h : GrowM a b c m) (g : GrowM b d c m) : GrowM a d c m :=
  ⟨g.os.trans h.os, g.tape.trans h.tape, g.output.trans h.output, Nat.le_trans h.size g.size, fun x h1 h2 h3 => (g.block x (Nat.lt_of_lt_of_le h1 h.size) h2 h3).trans (h.block x h1 h2 h3)⟩
theorem GrowM.one (h : a.grownBy b (some c)) : GrowM a b c m := ⟨h.os, h.tape, h.output, h.size, fun x h1 h2 _ => h.block x h1 (fun e => h2 (by injection e))⟩
theorem GrowM.two (h : a.grownBy b (some m)) : GrowM a b c m := ⟨h.os, h.tape, h.output, h.size, fun x h1 _ h3 => h.block x h1 (fun e => h3 (by injection e))⟩
theorem GrowM.of (h : Below a.heap.size a b) : GrowM a b c m := ⟨h.os, h.tape, h.output, h.size, fun x h1 _ _ => h.block x h1⟩
theorem GrowM.below (h : GrowM a b c m) (hB : B ≤ a.heap.size) (hc : B ≤ c) (hm : B ≤ m) : Below B a b := ⟨h.os, h.tape, h.output, h.size, fun x hx => h.block x (by omega) (by omega) (by omega)⟩
theorem GrowM.drewN (h : GrowM a b c m) (n : Nat) : GrowM a (b.drewN n) c m := ⟨h.os, h.tape, h.output, h.size, h.block⟩
end
/-- a block that is a map -/
def IsMap (w : World) (b : Nat) : Prop := ∃ es clock, w.heap[b]? = some (.map es clock)
theorem IsMap.lt {w : World} {b : Nat} (h : IsMap w b) : b < w.heap.size := by
  obtain ⟨es, clock, hb⟩ := h
  exact (Array.getElem?_eq_some_iff.1 hb).1
theorem IsMap.ne_blk {w : World} {b g : Nat} {t : TypeId} {cs : Array Value} (h : IsMap w b) (hg : Blk w g t cs) : g ≠ b := by
  rintro rfl
  obtain ⟨es, clock, hb⟩ := h
  unfold Blk at hg
  rw [hb] at hg
  injection hg with hg
  cases hg
theorem IsMap.ne_cell {w : World} {b : Nat} {p : Addr} {v : Value} (h : IsMap w b) (hg : w.cell? p = some v) : p.block ≠ b := by
  rintro rfl
  obtain ⟨es, clock, hb⟩ := h
  simp [World.cell?, hb] at hg
theorem MapIs.isMap {P : Program} {k : TypeId} {w : World} {b : Nat} {f : Value → Option Value} (h : MapIs P k w b f) : IsMap w b := by
  obtain ⟨es, clock, hb, _⟩ := h
  exact ⟨es, clock, hb⟩
theorem EntIs.isMap {P : Program} {k : TypeId} {w : World} {b st : Nat} {key : Value} {f : Value → Option Value} (h : EntIs P k w b key st f) : IsMap w b := by
  obtain ⟨es, clock, hb, _⟩ := h
  exact ⟨es, clock, hb⟩
theorem EntIs.kept {P : Program} {k : TypeId} {w w' : World} {b st : Nat} {key : Value} {f : Value → Option Value} {row : Option Nat} (h : EntIs P k w b key st f) (hg : w.grownBy w' row) (hne : some b ≠ row) : EntIs P k w' b key st f := by
  have hlt := h.isMap.lt
  obtain ⟨es, clock, hb, r⟩ := h
  exact ⟨es, clock, (hg.block b hlt hne).trans hb, r⟩
section
variable {w w' : World} {c m : Nat}
theorem GrowM.cell (h : GrowM w w' c m) (hc : IsMap w c) (hm : IsMap w m) {p : Addr} {v : Value} (hp : w.cell? p = some v) : w'.cell? p = some v := by
  rw [← hp]
  exact World.cell?_of_block (h.block p.block (block_lt_of_cell hp) (hc.ne_cell hp) (hm.ne_cell hp))
theorem GrowM.blk (h : GrowM w w' c m) (hc : IsMap w c) (hm : IsMap w m) {g : Nat} {t : TypeId} {cs : Array Value} (hg : Blk w g t cs) : Blk w' g t cs :=
  (h.block g hg.lt (hc.ne_blk hg) (hm.ne_blk hg)).trans hg
theorem SL.growM {A : Option Addr} {xs : List Int} (hs : SL w A xs) (h : GrowM w w' c m) (hc : IsMap w c) (hm : IsMap w m) : SL w' A xs := by
  refine ⟨hs.1, fun hn => ?_⟩
  obtain ⟨ad, e, hb, hcell⟩ := hs.2 hn
  exact ⟨ad, e, Nat.lt_of_lt_of_le hb h.size, fun j u hu => h.cell hc hm (hcell j u hu)⟩
theorem TB.growM {A : Option Addr} {ts : List (List Int)} (ht : TB w A ts) (h : GrowM w w' c m) (hc : IsMap w c) (hm : IsMap w m) : TB w' A ts := fun k hk => by
  obtain ⟨ad, A1, n1, c1, h1, h2, h3, h4, h5, h6, h7⟩ := ht k hk
  exact ⟨ad, A1, n1, c1, h1, Nat.lt_of_lt_of_le h2 h.size, h.cell hc hm h3, h4, h5, h6.growM h hc hm, h7⟩
theorem Spg.growM {p s b k z : Nat} [NeZero p] {oo : Nat → Nat → Fin p} (G : Spg w s b k z oo) (h : GrowM w w' c m) (hc : s < c) (hm : s < m) : Spg w' s b k z oo :=
  G.below (h.below (B := s + 1) (block_lt_of_cell G.c0) hc hm) (Nat.lt_succ_self _)
theorem Fld.growM {S b p : Nat} [NeZero p] (F : Fld w S b p) (h : GrowM w w' c m) (hc : S ≤ c) (hm : S ≤ m) : Fld w' S b p := F.below (h.below F.le hc hm) (Nat.le_refl _)
end
/-- a digest as a value -/
def dgV (d : List Int) : Value := .agg (d.map vi).toArray
/-- what a map of lists has of a group -/
def LIs (w : World) : Option Value → Option (List Int) → Prop
  | none, none => True
  | some v, some l => ∃ A n c, v = .slice A n c ∧ l.length = n ∧ 0 < n ∧ n ≤ 281474976710656 ∧ SL w A l ∧ ∀ x ∈ l, I64 x
  | _, _ => False
def DMap (w : World) (b : Nat) (f : GF) : Prop := ∃ F, MapIs Tryz.prog 92 w b F ∧ ∀ a m, 1 ≤ m → a + m ≤ 65536 → F (Gp a (a + m)) = (f a m).map dgV
def LMap (w : World) (b : Nat) (f : GF) : Prop := ∃ F, MapIs Tryz.prog 92 w b F ∧ ∀ a m, 1 ≤ m → a + m ≤ 65536 → LIs w (F (Gp a (a + m))) (f a m)
/-- what was worked out -/
structure Way (w : World) (y bD bL : Nat) (fD fL : GF) : Prop where
  obj : Blk w y 153 #[.map (some bD), .map (some bL)]
  dig : DMap w bD fD
  lis : LMap w bL fL
  ne : bD ≠ bL
theorem LIs.mono {w w' : World} {o : Option Value} {l : Option (List Int)} (h : LIs w o l) (hs : ∀ A xs, SL w A xs → SL w' A xs) : LIs w' o l := by
  cases o <;> cases l
  · trivial
  · exact h
  · exact h
  · obtain ⟨A, n, c, h1, h2, h3, h4, h5, h6⟩ := h
    exact ⟨A, n, c, h1, h2, h3, h4, hs _ _ h5, h6⟩
section
variable {w w' : World} {y bD bL : Nat} {fD fL : GF}
theorem DMap.isMap (h : DMap w bD fD) : IsMap w bD := h.choose_spec.1.isMap
theorem LMap.isMap (h : LMap w bL fL) : IsMap w bL := h.choose_spec.1.isMap
theorem Way.mapD (h : Way w y bD bL fD fL) : IsMap w bD := h.dig.isMap
theorem Way.mapL (h : Way w y bD bL fD fL) : IsMap w bL := h.lis.isMap
theorem DMap.same (h : DMap w bD fD) (hb : w'.heap[bD]? = w.heap[bD]?) : DMap w' bD fD := by
  obtain ⟨F, h1, h2⟩ := h
  exact ⟨F, h1.same hb, h2⟩
theorem LMap.same (h : LMap w bL fL) (hb : w'.heap[bL]? = w.heap[bL]?) (hs : ∀ A xs, SL w A xs → SL w' A xs) : LMap w' bL fL := by
  obtain ⟨F, h1, h2⟩ := h
  exact ⟨F, h1.same hb, fun a m h3 h4 => (h2 a m h3 h4).mono hs⟩
theorem Way.below (h : Way w y bD bL fD fL) (hb : Below w.heap.size w w') : Way w' y bD bL fD fL :=
  ⟨Blk.below h.obj hb h.obj.lt, h.dig.same (hb.block _ h.mapD.lt), h.lis.same (hb.block _ h.mapL.lt) (fun A xs hs => hs.below hb), h.ne⟩
/-- m[g] of the digests -/
theorem DMap.look (h : DMap w bD fD) {a m : Nat} (h1 : 1 ≤ m) (h2 : a + m ≤ 65536) {d : List Int} (hd : fD a m = some d) :
    (Instr.lookup 150 (.map (some bD)) (.agg #[vi (a : Int), vi ((a + m : Nat) : Int)]) false).run Tryz.prog w = .ok (dgV d) w := by
  obtain ⟨F, h3, h4⟩ := h
  obtain ⟨l, hl⟩ := key_gp (a := a) (c := a + m) (by omega)
  have := h3.look keyed_group Tryz.underlying150 (z := .agg #[vi 0, vi 0, vi 0, vi 0]) (by kernel_rfl) hl
  rw [h4 a m h1 h2, hd] at this
  exact this
end
end Go.Proofs.YtijhajkakmohnaaGreatDoor

/- A region that draws its order, walked by hand: what yields wherever S holds is taken first. Of no program. -/
set_option linter.unusedVariables false
namespace Go.Proofs.YtijhajkakmohnaaGreatDoor
open Go.RowKit
theorem wpAnyH_take_at {P : Program} {ops : Array Oper} {Q : Exit → Act → World → Prop} {md : Region.Mode} {S : World → Prop} {i d : Nat} {oi : Oper} {v : Value} {fuel : Nat} {listed : Array Bool} {a : Act} {w : World} (hi : ops[i]? = some oi) (hd : oi.dst = some d)
    (hs : Region.noSelect ops = true) (hf : Region.free md ops listed i = true) (hr : (Region.ready md ops listed).contains i = true)
    (hQ : ∀ c a w, Q (.panic c) (a.put (some d) v) w → Q (.panic c) a w) (hy : YieldsIf P ops S oi v a) (hS : S w)
    (h : wpAnyH P md ops Q S fuel (listed.setIfInBounds i true) (a.put (some d) v) w) : wpAnyH P md ops Q S (fuel + 1) listed a w := by
  rw [← hd] at h hQ
  exact wpAnyH_take hi hs hf hr hQ hy hS h
end Go.Proofs.YtijhajkakmohnaaGreatDoor
