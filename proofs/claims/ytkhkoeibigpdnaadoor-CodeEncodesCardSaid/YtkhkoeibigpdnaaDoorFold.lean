/- Walks: Point, Half, fold.one, folded, Fold. -/
import Derived.Test.YtkhkoeibigpdnaaDoorVals
import Derived.Test.YtkhkoeibigpdnaaDoorFd
import Derived.Deep.RegionHeld3
set_option linter.unusedVariables false
namespace Go.Proofs.YtkhkoeibigpdnaaDoor
open Go.RowKit Zp

set_option maxRecDepth 100000 in
set_option maxHeartbeats 1000000 in
theorem point_any (p S D b : Nat) [NeZero p] (n : Nat) (s : Fin p) (i : Int) (hi : I64 i) (w : World) (hD : Dom w S D b p n s) :
    Calls Tryd.prog 25 #[.pointer (some ⟨D, 0, none⟩), vi i] w fun e w' => e = .returned (vi (fv (s * pw (rootI p n) (i % (n : Int)).toNat))) ∧ ∃ k, w' = w.drewN k := by
  have hp1 := hD.fld.two
  have hp2 := hD.fld.max
  have hn0 := hD.size.pos
  have hn1 := hD.size.le
  have hd0 := hD.c0
  have hd1 := hD.c1
  have hd2 := hD.c2
  have hd3 := hD.c3
  have hcb := hD.fld.c0
  obtain ⟨r, hr⟩ : ∃ r, r = rootI p n := ⟨_, rfl⟩
  rw [← hr] at hd3 ⊢
  obtain ⟨j, hj⟩ : ∃ j, j = (i % (n : Int)).toNat := ⟨_, rfl⟩
  rw [← hj]
  have ht := tmod_emod i n hn0
  have h1 := Int.emod_nonneg i (b := (n : Int)) (by omega)
  have h2 := Int.emod_lt_of_pos i (b := (n : Int)) (by omega)
  have hjI : I64 (j : Int) := ⟨by omega, by omega⟩
  have hz : zpw r (j : Int) = pw r j := by rw [zpw, if_pos (by omega), Int.toNat_natCast]
  have hpow := fun W hc => pow_any p hp1 hp2 b (fv r) j (i64_fv r hp2) hjI W hc
  rw [el_fv, hz] at hpow
  have hmul := fun W hc => mul_any p hp2 b (fv s) (fv (pw r j)) (i64_fv s hp2) (i64_fv _ hp2) W hc
  rw [el_fv, el_fv] at hmul
  have HPOW := Lib.hid hpow
  have HMUL := Lib.hid hmul
  have hn0' : ¬ n = 0 := by omega
  obtain ⟨T, hT⟩ : ∃ T, T = i.tmod n := ⟨_, rfl⟩
  have b1 : -(n : Int) < T := by rw [hT, ht]; split <;> (try split) <;> omega
  have b2 : T < n := by rw [hT, ht]; split <;> (try split) <;> omega
  have hTj : T = j ∨ (T < 0 ∧ T + n = j) := by
    rw [hT, ht]
    split
    · left; omega
    · split
      · left; omega
      · right; omega
  have et : i.tmod (n : Int) = T := hT.symm
  clear hpow hmul hz ht hj hT hr
  rcases hTj with hTj | ⟨hT0, hTj⟩
  · subst hTj
    go_enter Tryd.func25, Tryd.ntmps25
    go_wp2
    go_quiet ((first | (go_at_call 71; exact Calls.quiet_of (HPOW.out _ (by exact hcb))) | (go_at_call 70; exact Calls.quiet_of (HMUL.out _ (by exact hcb)))))
    go_wp2
    go_ret
    exact ⟨rfl, _, rfl⟩
  · go_enter Tryd.func25, Tryd.ntmps25
    go_wp2
    go_quiet ((first | (go_at_call 71; exact Calls.quiet_of (HPOW.out _ (by exact hcb))) | (go_at_call 70; exact Calls.quiet_of (HMUL.out _ (by exact hcb)))))
    go_wp2
    go_ret
    exact ⟨rfl, _, rfl⟩

set_option maxRecDepth 100000 in
set_option maxHeartbeats 2000000 in
theorem one_any (p S D b : Nat) [NeZero p] (n : Nat) (s : Fin p) (i : Nat) (hin : i < n) (x y r : Int) (hx : I64 x) (hy : I64 y) (hr : I64 r) (w : World) (hD : Dom w S D b p n s) :
    Calls Tryd.prog 122 #[.pointer (some ⟨D, 0, none⟩), vi i, vi x, vi y, vi r] w fun e w' => e = .returned (vi (fv (foldE (el p x) (el p y) (el p r) (s * pw (rootI p n) i)))) ∧ ∃ k, w' = w.drewN k := by
  have hp1 := hD.fld.two
  have hp2 := hD.fld.max
  have hn1 := hD.size.le
  have hd0 := hD.c0
  have hcb := hD.fld.c0
  have hiI : I64 (i : Int) := ⟨by omega, by omega⟩
  have hpt := fun k => point_any p S D b n s i hiI (w.drewN k) (hD.drewN k)
  have ej : ((i : Int) % (n : Int)).toNat = i := by rw [Int.emod_eq_of_lt (by omega) (by omega)]; rfl
  rw [ej] at hpt
  have HPT := Lib.hid hpt
  obtain ⟨X, hX⟩ : ∃ X, X = s * pw (rootI p n) i := ⟨_, rfl⟩
  rw [← hX] at HPT ⊢
  have h2I : I64 2 := by constructor <;> decide
  clear hpt ej hX
  go_enter Tryd.func122, Tryd.ntmps122
  go_wp2_with fail
  refine (inv_any p hp1 hp2 b 2 h2I _ hcb).mono ?_
  rintro e w' ⟨rfl, rfl⟩
  go_wp2
  have iH := i64_fv (Zp.inv (el p 2)) hp2
  go_quiet ((first | (go_at_call 73; exact Calls.quiet_of (add_any p hp2 b _ _ (by first | assumption | exact i64_fv _ hp2) (by first | assumption | exact i64_fv _ hp2) _ (by exact hcb))) | (go_at_call 70; exact Calls.quiet_of (mul_any p hp2 b _ _ (by first | assumption | exact i64_fv _ hp2) (by first | assumption | exact i64_fv _ hp2) _ (by exact hcb)))))
  go_wp2
  go_quiet ((first | (go_at_call 109; exact quiet_eq2 (sub_any p hp2 b _ _ (by first | assumption | exact i64_fv _ hp2) (by first | assumption | exact i64_fv _ hp2) _ (by exact hcb))) | (go_at_call 70; exact quiet_of2 (mul_any p hp2 b _ _ (by first | assumption | exact i64_fv _ hp2) (by first | assumption | exact i64_fv _ hp2) _ (by exact hcb))) | (go_at_call 25; exact quiet_of2 (HPT.out _)) | (go_at_call 78; exact quiet_eq2 (inv_any p hp1 hp2 b _ (by first | assumption | exact i64_fv _ hp2) _ (by exact hcb)))))
  go_wp2
  go_quiet ((first | (go_at_call 73; exact quiet_of2 (add_any p hp2 b _ _ (by first | assumption | exact i64_fv _ hp2) (by first | assumption | exact i64_fv _ hp2) _ (by exact hcb))) | (go_at_call 70; exact quiet_of2 (mul_any p hp2 b _ _ (by first | assumption | exact i64_fv _ hp2) (by first | assumption | exact i64_fv _ hp2) _ (by exact hcb)))))
  go_wp2
  go_ret
  exact ⟨ret_int (by simp only [el_fv]; rfl), _, (World.drewN_drewN _ _ _).trans (World.drewN_drewN _ _ _)⟩

theorem half_one (p S D b : Nat) [NeZero p] (s : Fin p) (w : World) (hD : Dom w S D b p 1 s) :
    Calls Tryd.prog 27 #[.pointer (some ⟨D, 0, none⟩)] w fun e w' => e = NoDom 2 ∧ w = w' := by
  have hd1 := hD.c1
  have t1 : (((1 : Nat) : Int) == 1) = true := rfl
  go_enter Tryd.func27, Tryd.ntmps27
  go_wp2
  go_ret2
  exact ⟨rfl, rfl⟩

theorem sizeOk_half {p h : Nat} (hs : SizeOk p (2 * h)) (hh : 0 < h) : SizeOk p h := by
  obtain ⟨⟨k, hk, e⟩, hd⟩ := hs
  refine ⟨?_, Nat.dvd_trans ⟨2, by omega⟩ hd⟩
  cases k with
  | zero => simp at e; omega
  | succ k =>
    refine ⟨k, by omega, ?_⟩
    rw [Nat.pow_succ] at e
    omega

set_option maxRecDepth 100000 in
set_option maxHeartbeats 1000000 in
theorem half_any (p S D b : Nat) [NeZero p] (n h : Nat) (hn : n = 2 * h) (hh : 0 < h) (s : Fin p) (w : World) (hD : Dom w S D b p n s) :
    Calls Tryd.prog 27 #[.pointer (some ⟨D, 0, none⟩)] w fun e w' => MadeDom p b h (fv (s * s)) w e w' := by
  have hp2 := hD.fld.max
  have hn1 := hD.size.le
  have hp := hD.fld.prime
  have hd0 := hD.c0
  have hd1 := hD.c1
  have hd2 := hD.c2
  have hcb := hD.fld.c0
  have hso : SizeOk p h := sizeOk_half (by rw [← hn]; exact hD.size) hh
  have hmul := fun W hc => mul_any p hp2 b (fv s) (fv s) (i64_fv s hp2) (i64_fv s hp2) W hc
  rw [el_fv] at hmul
  have hnew := fun k => dnew_ok p S b h (fv (s * s)) (i64_fv _ hp2) hso (by rw [el_fv]; exact mul_ne_zero hp hD.s0 hD.s0) (w.drewN k) (hD.fld.drewN k)
  have HMUL := Lib.hid hmul
  have HNEW := Lib.hid hnew
  have hDl : D < w.heap.size := Nat.lt_of_lt_of_le hD.lt hD.le
  have t1 : ((n : Int) == 1) = false := by rw [beq_eq_false_iff_ne]; omega
  have t2 : (n : Int).tdiv 2 = (h : Int) := by rw [Int.tdiv_eq_ediv_of_nonneg (by omega)]; omega
  have t3 : (n : Int) / 2 = (h : Int) := by omega
  have t4 : IntKind.i64.wrap (h : Int) = (h : Int) := IntWalk.i64_in _ (by constructor <;> omega)
  clear hmul hnew hn hso
  go_enter Tryd.func27, Tryd.ntmps27
  go_wp2
  go_region_held3 (fun w' => w'.cell? ⟨D, 0, none⟩ = some (.pointer (some ⟨b, 0, none⟩)) ∧ w'.cell? ⟨D, 1, none⟩ = some (vi n) ∧ w'.cell? ⟨D, 2, none⟩ = some (vi (fv s))) (first | exact ⟨hd0, hd1, hd2⟩ | exact ⟨(hb2.cell (p := ⟨D, 0, none⟩) hDl).trans hd0, (hb2.cell (p := ⟨D, 1, none⟩) hDl).trans hd1, (hb2.cell (p := ⟨D, 2, none⟩) hDl).trans hd2⟩) ((first | (go_at_call 70; refine (HMUL.out _ (by exact hcb)).mono ?_; rintro e w' ⟨rfl, k3, rfl⟩) | (go_at_call 65; refine (HNEW.out _).mono ?_; rintro e w' ⟨D2, rfl, hD2, hb2, hle2⟩)))
  go_wp2
  go_ret2
  exact ⟨D2, rfl, hD2, (below_drewN (Below.refl _ w) _).trans hb2, hle2⟩

def FoldRel {p : Nat} [NeZero p] (l : List (Fin p)) (h : Nat) (w : World) (v i : Value) (wr : World) : Prop := ∃ k g : Nat, k ≤ h ∧ i = vi k ∧ v = .slice (some ⟨g, 0, none⟩) k h ∧ Own wr w.heap.size v ((fvs l).take k) ∧ Below w.heap.size w wr

/-- append of one int within the capacity, at a step of a region that draws its order -/
theorem step_app1_fits {ops : Array Oper} {o : Oper} {a : Act} {K : Act → World → Prop} {Q : Exit → Act → World → Prop} {E : Prop} (w W : World) (n : Int) (hW : W = w.alloc (.cells #[vi n] 3)) (hgd : o.guard = none) (s x : Operand)
    (ho : o.op = .call { callee := .builtin .append, args := #[s, x], argTypes := #[22, 22] })
    (base g k cap : Nat) (xs : List Int) (hs : a.eval s = .slice (some ⟨g, 0, none⟩) k cap) (hx : a.eval x = .slice (some ⟨w.heap.size, 0, none⟩) 1 1) (hown : Own w base (.slice (some ⟨g, 0, none⟩) k cap) xs) (hk : k = xs.length) (hroom : k < cap)
    (h : ∀ w', Own w' base (.slice (some ⟨g, 0, none⟩) (k + 1) cap) (xs ++ [n]) → w.grownBy w' (some g) → K (a.put o.dst (.slice (some ⟨g, 0, none⟩) (k + 1) cap)) w') :
    if Region.wanted o (yielded ops a.tmps) = true then Oper.wp Tryd.prog o a W K Q else E := by
  have hw : Region.wanted o (yielded ops a.tmps) = true := by simp [Region.wanted, hgd]
  rw [if_pos hw]
  subst hk hW
  obtain ⟨i0, hi, hz0, hz1, hz2⟩ := info_parts info_int
  obtain ⟨w', hrun, h2, h3⟩ := run_append_fits (P := Tryd.prog) (w.alloc (.cells #[vi n] 3)) base 22 o.type 3 i0 1 Tryd.underlying22 hi hz1 g xs.length cap (xs.map vi) (hown.alloc _)
    ⟨w.heap.size, 0, none⟩ 1 1 [vi n] rfl (cell_one_new _ _ _) (by simp [Value.oneCell']) (by omega)
  unfold Oper.wp execOp
  simp only [ho, resolve, invoke, builtin, Sem.run_bind, Sem.run_pure, Result.andThen_ok, List.map_toArray, List.map_cons, List.map_nil, hs, hx, hrun]
  refine h w' ?_ (grownBy_trans (World.grownBy_alloc w _ _) h3)
  have e : (xs ++ [n]).length = xs.length + 1 := by simp
  rw [Own, e, List.map_append]
  exact h2

set_option maxRecDepth 100000 in
set_option maxHeartbeats 2000000 in
theorem folded_any (p S D b : Nat) [NeZero p] (n h : Nat) (hn : n = 2 * h) (hh : 0 < h) (s : Fin p) (A : Option Addr) (cap : Nat) (xs : List Int) (hml : xs.length = n) (hxs : ∀ x ∈ xs, I64 x) (r : Int) (hr : I64 r) (w : World) (hD : Dom w S D b p n s) (hs : SL w A xs) :
    Calls Tryd.prog 100 #[.pointer (some ⟨D, 0, none⟩), .slice A n cap, vi r] w fun e w' => Made (fvs (foldL s (rootI p n) h (els p xs) (el p r))) w e w' := by
  have hp2 := hD.fld.max
  have hn1 := hD.size.le
  have hd1 := hD.c1
  have hmk := make_ints0 h (by omega)
  have hone := fun (i : Nat) (hi : i < n) (x y : Int) (hx : I64 x) (hy : I64 y) (W : World) hDW => one_any p S D b n s i hi x y r hx hy hr W hDW
  have HONE := Lib.hid hone
  have hDle := hD.le
  have HML := Lib.hid hml
  have HN := Lib.hid hn
  have hhn : h < n := by omega
  obtain ⟨l, hl⟩ : ∃ l, l = foldL s (rootI p n) h (els p xs) (el p r) := ⟨_, rfl⟩
  rw [← hl]
  have hll : l.length = h := by rw [hl, foldL_length]
  have HLL := Lib.hid hll
  have HL := Lib.hid hl
  have t2 : (n : Int).tdiv 2 = (h : Int) := by rw [Int.tdiv_eq_ediv_of_nonneg (by omega)]; omega
  have t3 : (n : Int) / 2 = (h : Int) := by omega
  clear hone hml hn hl hll
  go_enter Tryd.func100, Tryd.ntmps100
  go_wp2_with fail
  refine (size_any D n _ hd1).mono ?_
  rintro e w' ⟨rfl, rfl⟩
  go_wp2
  clear t2 t3
  go_loopw [8, 16] (fun v i wr => FoldRel l h w v i wr) (fun _ i _ => h - (intOf i).toNat)
  case atStart => exact ⟨0, w.heap.size, Nat.zero_le _, rfl, rfl, own_made0 w _ h (Nat.le_refl _) (by omega), (Below.refl _ _).alloc (Nat.le_refl _) _⟩
  case round =>
    obtain ⟨k, g, hk, rfl, rfl, hown, hb⟩ := hrel
    have hDr := hD.below hb hDle
    by_cases hkh : k < h
    · have hsw := hs.below hb
      have hkx : k < xs.length := by rw [HML.out]; omega
      have hkx2 : k + h < xs.length := by rw [HML.out, HN.out]; omega
      obtain ⟨ad, rfl, _, hc1⟩ := hsw.at_ hkx
      obtain ⟨ad', he, _, hc2⟩ := hsw.at_ hkx2
      injection he with he
      subst he
      obtain ⟨ad2, he2, hab, _⟩ := hs.at_ hkx
      injection he2 with he2
      subst he2
      have hgl := (hown.lt g rfl).1
      have hk1 : some (ad.add k).block ≠ some g := by rw [block_of_add]; intro e; injection e with e; omega
      have hk2 : some (ad.add (k + h)).block ≠ some g := by rw [block_of_add]; intro e; injection e with e; omega
      have ix := hxs _ (List.getElem_mem hkx)
      have iy := hxs _ (List.getElem_mem hkx2)
      have hcx : co (els p xs) k = el p xs[k] := by rw [co_of_lt (by simpa using hkx)]; simp
      have hcy : co (els p xs) (k + h) = el p xs[k + h] := by rw [co_of_lt (by simpa using hkx2)]; simp
      have h2 := map_take_succ fv l k (by rw [HLL.out]; exact hkh)
      have h3 : l[k]'(by rw [HLL.out]; exact hkh) = foldE (co (els p xs) k) (co (els p xs) (k + h)) (el p r) (s * pw (rootI p n) k) := by
        rw [← co_of_lt (by rw [HLL.out]; exact hkh), HL.out, foldL, co_tab, if_pos hkh]
      obtain ⟨x, hx⟩ : ∃ x, x = xs[k] := ⟨_, rfl⟩
      obtain ⟨y, hy⟩ : ∃ y, y = xs[k + h] := ⟨_, rfl⟩
      rw [← hx] at hc1 ix hcx
      rw [← hy] at hc2 iy hcy
      rw [h3, hcx, hcy] at h2
      have h1 := fun W hDW => HONE.out k (by omega) x y ix iy W hDW
      obtain ⟨Z, hZ⟩ : ∃ Z, Z = foldE (el p x) (el p y) (el p r) (s * pw (rootI p n) k) := ⟨_, rfl⟩
      rw [← hZ] at h1 h2
      have hlk : ((fvs l).take k).length = k := by rw [List.length_take, List.length_map, HLL.out]; omega
      have H1 := Lib.hid h1
      have H2 := Lib.hid h2
      have HLK := Lib.hid hlk
      have i1 : (0 : Int) ≤ k := by omega
      have i2 : (k : Int) < n := by omega
      have i3 : (0 : Int) ≤ (k : Int) + h := by omega
      have i4 : (k : Int) + h < n := by have := HN.out; omega
      have i5 : ((k : Int) + h).toNat = k + h := by omega
      have i6 : IntKind.i64.wrap ((k : Int) + h) = (k : Int) + h := IntWalk.i64_in _ (by constructor <;> omega)
      clear h1 h2 h3 hx hy hcx hcy hZ hlk
      go_wp2
      go_region_held3 (fun w' => w'.cell? (ad.add k) = some (vi x) ∧ w'.cell? (ad.add (k + h)) = some (vi y)) (first | exact ⟨hc1, hc2⟩ | go_keep | exact ⟨hg.cell hc1 hk1, hg.cell hc2 hk2⟩) ((first | (go_at_call 122; refine (H1.out _ (hDr.drewN _)).mono ?_; rintro e w' ⟨rfl, k3, rfl⟩) | (refine step_app1_fits _ _ (fv Z) (by rfl) (by rfl) _ _ (by rfl) w.heap.size g k h _ (by rfl) (by rfl) (hown.drewN _) HLK.out.symm hkh ?_; intro w1 hown1 hg)))
      go_wp2
      go_roundw
      case rel => exact ⟨k + 1, g, by omega, by go_num, rfl, by rw [← H2.out]; exact hown1, (below_drewN hb _).grown hg hb.size (fun j hj => by injection hj with hj; subst hj; exact hgl)⟩
      case measure => simp [intOf]; omega
    · obtain rfl : k = h := by omega
      go_wp2
      go_ret
      rw [List.take_of_length_le (by rw [List.length_map, HLL.out]; exact Nat.le_refl _)] at hown
      exact ⟨_, rfl, hown, hb⟩

abbrev NoFold (k : Int) : Ending := .returned (.tuple #[.slice none 0 0, .iface 107 (.int .i64 k)])
theorem fold_no (D n : Nat) (A : Option Addr) (m cap : Nat) (r : Int) (h : n = 1 ∨ m ≠ n) (w : World) (hc : w.cell? ⟨D, 1, none⟩ = some (vi n)) :
    Calls Tryd.prog 59 #[.pointer (some ⟨D, 0, none⟩), .slice A m cap, vi r] w fun e w' => e = NoFold 2 ∧ w = w' := by
  have hsz := size_any D n w hc
  have HSZ := Lib.hid hsz
  clear hsz
  by_cases h1 : n = 1
  · have t1 : ((n : Int) == 1) = true := by rw [h1]; rfl
    clear h h1
    go_enter Tryd.func59, Tryd.ntmps59
    go_wp2_with fail
    refine (HSZ.out).mono ?_
    rintro e w' ⟨rfl, rfl⟩
    go_wp2
    go_ret2
    exact ⟨rfl, rfl⟩
  · have t1 : ((n : Int) == 1) = false := by rw [beq_eq_false_iff_ne]; omega
    have t2 : ((m : Int) != (n : Int)) = true := by rw [bne_iff_ne]; omega
    clear h h1
    go_enter Tryd.func59, Tryd.ntmps59
    go_wp2_with fail
    refine (HSZ.out).mono ?_
    rintro e w' ⟨rfl, rfl⟩
    go_wp2_with fail
    refine (HSZ.out).mono ?_
    rintro e w' ⟨rfl, rfl⟩
    go_wp2
    go_ret2
    exact ⟨rfl, rfl⟩

/-- a word of the call's own, and no error -/
def MadeE (xs : List Int) (w : World) (e : Ending) (w' : World) : Prop := ∃ v, e = .returned (.tuple #[v, .nilIface]) ∧ Own w' w.heap.size v xs ∧ Below w.heap.size w w'
theorem fold_any (p S D b : Nat) [NeZero p] (n h : Nat) (hn : n = 2 * h) (hh : 0 < h) (s : Fin p) (A : Option Addr) (cap : Nat) (xs : List Int) (hml : xs.length = n) (hxs : ∀ x ∈ xs, I64 x) (r : Int) (hr : I64 r) (w : World) (hD : Dom w S D b p n s) (hs : SL w A xs) :
    Calls Tryd.prog 59 #[.pointer (some ⟨D, 0, none⟩), .slice A n cap, vi r] w fun e w' => MadeE (fvs (foldL s (rootI p n) h (els p xs) (el p r))) w e w' := by
  have hsz := size_any D n w hD.c1
  have HSZ := Lib.hid hsz
  have hf := folded_any p S D b n h hn hh s A cap xs hml hxs r hr w hD hs
  have HF := Lib.hid hf
  have t1 : ((n : Int) == 1) = false := by rw [beq_eq_false_iff_ne]; omega
  have t2 : ((n : Int) != (n : Int)) = false := by simp
  clear hsz hf hml hn
  go_enter Tryd.func59, Tryd.ntmps59
  go_wp2_with fail
  refine (HSZ.out).mono ?_
  rintro e w' ⟨rfl, rfl⟩
  go_wp2_with fail
  refine (HSZ.out).mono ?_
  rintro e w' ⟨rfl, rfl⟩
  go_wp2_with fail
  refine (HF.out).mono ?_
  rintro e w1 ⟨v, rfl, hown, hb⟩
  go_wp2
  go_ret2
  exact ⟨v, rfl, hown, hb⟩
end Go.Proofs.YtkhkoeibigpdnaaDoor
