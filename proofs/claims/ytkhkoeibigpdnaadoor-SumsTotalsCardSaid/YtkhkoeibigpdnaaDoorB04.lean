/- A bundle of texts: Fold, Sp, LawG5, Sm1, Sm2, Sm3, Sm4, Ct, Rowm, Each, Sm5, Sm6. -/
import Derived.Test.YtkhkoeibigpdnaaDoorB02
import Derived.Test.YtkhkoeibigpdnaaDoorB00
import Derived.Deep.RegionHeld3
import Derived.Test.YtkhkoeibigpdnaaDoorB03
/- Walks: Point, Half, fold.one, folded, Fold. -/
set_option linter.unusedVariables false
namespace Go.Proofs.YtkhkoeibigpdnaaDoor
open Go.RowKit Zp

set_option maxRecDepth 100000 in
set_option maxHeartbeats 1000000 in
theorem point_any (p S D b : Nat) [NeZero p] (n : Nat) (s : Fin p) (i : Int) (hi : I64 i) (w : World) (hD : Dom w S D b p n s) :
    Calls Tryd.prog 25 #[.pointer (some ⟨D, 0, none⟩), vi i] w fun e w' => e = .returned (vi (fv (s * pw (rootI p n) (i % (n : Int)).toNat))) ∧ ∃ k, w' = w.drewN k := by
  have hp1 := hD.fld.two
  have hp2 := hD.fld.max
  have hn0 := hD.size.pos
  have hn1 := hD.size.le
  have hd0 := hD.c0
  have hd1 := hD.c1
  have hd2 := hD.c2
  have hd3 := hD.c3
  have hcb := hD.fld.c0
  obtain ⟨r, hr⟩ : ∃ r, r = rootI p n := ⟨_, rfl⟩
  rw [← hr] at hd3 ⊢
  obtain ⟨j, hj⟩ : ∃ j, j = (i % (n : Int)).toNat := ⟨_, rfl⟩
  rw [← hj]
  have ht := tmod_emod i n hn0
  have h1 := Int.emod_nonneg i (b := (n : Int)) (by omega)
  have h2 := Int.emod_lt_of_pos i (b := (n : Int)) (by omega)
  have hjI : I64 (j : Int) := ⟨by omega, by omega⟩
  have hz : zpw r (j : Int) = pw r j := by rw [zpw, if_pos (by omega), Int.toNat_natCast]
  have hpow := fun W hc => pow_any p hp1 hp2 b (fv r) j (i64_fv r hp2) hjI W hc
  rw [el_fv, hz] at hpow
  have hmul := fun W hc => mul_any p hp2 b (fv s) (fv (pw r j)) (i64_fv s hp2) (i64_fv _ hp2) W hc
  rw [el_fv, el_fv] at hmul
  have HPOW := Lib.hid hpow
  have HMUL := Lib.hid hmul
  have hn0' : ¬ n = 0 := by omega
  obtain ⟨T, hT⟩ : ∃ T, T = i.tmod n := ⟨_, rfl⟩
  have b1 : -(n : Int) < T := by rw [hT, ht]; split <;> (try split) <;> omega
  have b2 : T < n := by rw [hT, ht]; split <;> (try split) <;> omega
  have hTj : T = j ∨ (T < 0 ∧ T + n = j) := by
    rw [hT, ht]
    split
    · left; omega
    · split
      · left; omega
      · right; omega
  have et : i.tmod (n : Int) = T := hT.symm
  clear hpow hmul hz ht hj hT hr
  rcases hTj with hTj | ⟨hT0, hTj⟩
  · subst hTj
    go_enter Tryd.func25, Tryd.ntmps25
    go_wp2
    go_quiet ((first | (go_at_call 71; exact Calls.quiet_of (HPOW.out _ (by exact hcb))) | (go_at_call 70; exact Calls.quiet_of (HMUL.out _ (by exact hcb)))))
    go_wp2
    go_ret
    exact ⟨rfl, _, rfl⟩
  · go_enter Tryd.func25, Tryd.ntmps25
    go_wp2
    go_quiet ((first | (go_at_call 71; exact Calls.quiet_of (HPOW.out _ (by exact hcb))) | (go_at_call 70; exact Calls.quiet_of (HMUL.out _ (by exact hcb)))))
    go_wp2
    go_ret
    exact ⟨rfl, _, rfl⟩

set_option maxRecDepth 100000 in
set_option maxHeartbeats 2000000 in
theorem one_any (p S D b : Nat) [NeZero p] (n : Nat) (s : Fin p) (i : Nat) (hin : i < n) (x y r : Int) (hx : I64 x) (hy : I64 y) (hr : I64 r) (w : World) (hD : Dom w S D b p n s) :
    Calls Tryd.prog 122 #[.pointer (some ⟨D, 0, none⟩), vi i, vi x, vi y, vi r] w fun e w' => e = .returned (vi (fv (foldE (el p x) (el p y) (el p r) (s * pw (rootI p n) i)))) ∧ ∃ k, w' = w.drewN k := by
  have hp1 := hD.fld.two
  have hp2 := hD.fld.max
  have hn1 := hD.size.le
  have hd0 := hD.c0
  have hcb := hD.fld.c0
  have hiI : I64 (i : Int) := ⟨by omega, by omega⟩
  have hpt := fun k => point_any p S D b n s i hiI (w.drewN k) (hD.drewN k)
  have ej : ((i : Int) % (n : Int)).toNat = i := by rw [Int.emod_eq_of_lt (by omega) (by omega)]; rfl
  rw [ej] at hpt
  have HPT := Lib.hid hpt
  obtain ⟨X, hX⟩ : ∃ X, X = s * pw (rootI p n) i := ⟨_, rfl⟩
  rw [← hX] at HPT ⊢
  have h2I : I64 2 := by constructor <;> decide
  clear hpt ej hX
  go_enter Tryd.func122, Tryd.ntmps122
  go_wp2_with fail
  refine (inv_any p hp1 hp2 b 2 h2I _ hcb).mono ?_
  rintro e w' ⟨rfl, rfl⟩
  go_wp2
  have iH := i64_fv (Zp.inv (el p 2)) hp2
  go_quiet ((first | (go_at_call 73; exact Calls.quiet_of (add_any p hp2 b _ _ (by first | assumption | exact i64_fv _ hp2) (by first | assumption | exact i64_fv _ hp2) _ (by exact hcb))) | (go_at_call 70; exact Calls.quiet_of (mul_any p hp2 b _ _ (by first | assumption | exact i64_fv _ hp2) (by first | assumption | exact i64_fv _ hp2) _ (by exact hcb)))))
  go_wp2
  go_quiet ((first | (go_at_call 109; exact quiet_eq2 (sub_any p hp2 b _ _ (by first | assumption | exact i64_fv _ hp2) (by first | assumption | exact i64_fv _ hp2) _ (by exact hcb))) | (go_at_call 70; exact quiet_of2 (mul_any p hp2 b _ _ (by first | assumption | exact i64_fv _ hp2) (by first | assumption | exact i64_fv _ hp2) _ (by exact hcb))) | (go_at_call 25; exact quiet_of2 (HPT.out _)) | (go_at_call 78; exact quiet_eq2 (inv_any p hp1 hp2 b _ (by first | assumption | exact i64_fv _ hp2) _ (by exact hcb)))))
  go_wp2
  go_quiet ((first | (go_at_call 73; exact quiet_of2 (add_any p hp2 b _ _ (by first | assumption | exact i64_fv _ hp2) (by first | assumption | exact i64_fv _ hp2) _ (by exact hcb))) | (go_at_call 70; exact quiet_of2 (mul_any p hp2 b _ _ (by first | assumption | exact i64_fv _ hp2) (by first | assumption | exact i64_fv _ hp2) _ (by exact hcb)))))
  go_wp2
  go_ret
  exact ⟨ret_int (by simp only [el_fv]; rfl), _, (World.drewN_drewN _ _ _).trans (World.drewN_drewN _ _ _)⟩

theorem half_one (p S D b : Nat) [NeZero p] (s : Fin p) (w : World) (hD : Dom w S D b p 1 s) :
    Calls Tryd.prog 27 #[.pointer (some ⟨D, 0, none⟩)] w fun e w' => e = NoDom 2 ∧ w = w' := by
  have hd1 := hD.c1
  have t1 : (((1 : Nat) : Int) == 1) = true := rfl
  go_enter Tryd.func27, Tryd.ntmps27
  go_wp2
  go_ret2
  exact ⟨rfl, rfl⟩

theorem sizeOk_half {p h : Nat} (hs : SizeOk p (2 * h)) (hh : 0 < h) : SizeOk p h := by
  obtain ⟨⟨k, hk, e⟩, hd⟩ := hs
  refine ⟨?_, Nat.dvd_trans ⟨2, by omega⟩ hd⟩
  cases k with
  | zero => simp at e; omega
  | succ k =>
    refine ⟨k, by omega, ?_⟩
    rw [Nat.pow_succ] at e
    omega

set_option maxRecDepth 100000 in
set_option maxHeartbeats 1000000 in
theorem half_any (p S D b : Nat) [NeZero p] (n h : Nat) (hn : n = 2 * h) (hh : 0 < h) (s : Fin p) (w : World) (hD : Dom w S D b p n s) :
    Calls Tryd.prog 27 #[.pointer (some ⟨D, 0, none⟩)] w fun e w' => MadeDom p b h (fv (s * s)) w e w' := by
  have hp2 := hD.fld.max
  have hn1 := hD.size.le
  have hp := hD.fld.prime
  have hd0 := hD.c0
  have hd1 := hD.c1
  have hd2 := hD.c2
  have hcb := hD.fld.c0
  have hso : SizeOk p h := sizeOk_half (by rw [← hn]; exact hD.size) hh
  have hmul := fun W hc => mul_any p hp2 b (fv s) (fv s) (i64_fv s hp2) (i64_fv s hp2) W hc
  rw [el_fv] at hmul
  have hnew := fun k => dnew_ok p S b h (fv (s * s)) (i64_fv _ hp2) hso (by rw [el_fv]; exact mul_ne_zero hp hD.s0 hD.s0) (w.drewN k) (hD.fld.drewN k)
  have HMUL := Lib.hid hmul
  have HNEW := Lib.hid hnew
  have hDl : D < w.heap.size := Nat.lt_of_lt_of_le hD.lt hD.le
  have t1 : ((n : Int) == 1) = false := by rw [beq_eq_false_iff_ne]; omega
  have t2 : (n : Int).tdiv 2 = (h : Int) := by rw [Int.tdiv_eq_ediv_of_nonneg (by omega)]; omega
  have t3 : (n : Int) / 2 = (h : Int) := by omega
  have t4 : IntKind.i64.wrap (h : Int) = (h : Int) := IntWalk.i64_in _ (by constructor <;> omega)
  clear hmul hnew hn hso
  go_enter Tryd.func27, Tryd.ntmps27
  go_wp2
  go_region_held3 (fun w' => w'.cell? ⟨D, 0, none⟩ = some (.pointer (some ⟨b, 0, none⟩)) ∧ w'.cell? ⟨D, 1, none⟩ = some (vi n) ∧ w'.cell? ⟨D, 2, none⟩ = some (vi (fv s))) (first | exact ⟨hd0, hd1, hd2⟩ | exact ⟨(hb2.cell (p := ⟨D, 0, none⟩) hDl).trans hd0, (hb2.cell (p := ⟨D, 1, none⟩) hDl).trans hd1, (hb2.cell (p := ⟨D, 2, none⟩) hDl).trans hd2⟩) ((first | (go_at_call 70; refine (HMUL.out _ (by exact hcb)).mono ?_; rintro e w' ⟨rfl, k3, rfl⟩) | (go_at_call 65; refine (HNEW.out _).mono ?_; rintro e w' ⟨D2, rfl, hD2, hb2, hle2⟩)))
  go_wp2
  go_ret2
  exact ⟨D2, rfl, hD2, (below_drewN (Below.refl _ w) _).trans hb2, hle2⟩

def FoldRel {p : Nat} [NeZero p] (l : List (Fin p)) (h : Nat) (w : World) (v i : Value) (wr : World) : Prop := ∃ k g : Nat, k ≤ h ∧ i = vi k ∧ v = .slice (some ⟨g, 0, none⟩) k h ∧ Own wr w.heap.size v ((fvs l).take k) ∧ Below w.heap.size w wr

/-- append of one int within the capacity, at a step of a region that draws its order -/
theorem step_app1_fits {ops : Array Oper} {o : Oper} {a : Act} {K : Act → World → Prop} {Q : Exit → Act → World → Prop} {E : Prop} (w W : World) (n : Int) (hW : W = w.alloc (.cells #[vi n] 3)) (hgd : o.guard = none) (s x : Operand)
    (ho : o.op = .call { callee := .builtin .append, args := #[s, x], argTypes := #[22, 22] })
    (base g k cap : Nat) (xs : List Int) (hs : a.eval s = .slice (some ⟨g, 0, none⟩) k cap) (hx : a.eval x = .slice (some ⟨w.heap.size, 0, none⟩) 1 1) (hown : Own w base (.slice (some ⟨g, 0, none⟩) k cap) xs) (hk : k = xs.length) (hroom : k < cap)
    (h : ∀ w', Own w' base (.slice (some ⟨g, 0, none⟩) (k + 1) cap) (xs ++ [n]) → w.grownBy w' (some g) → K (a.put o.dst (.slice (some ⟨g, 0, none⟩) (k + 1) cap)) w') :
    if Region.wanted o (yielded ops a.tmps) = true then Oper.wp Tryd.prog o a W K Q else E := by
  have hw : Region.wanted o (yielded ops a.tmps) = true := by simp [Region.wanted, hgd]
  rw [if_pos hw]
  subst hk hW
  obtain ⟨i0, hi, hz0, hz1, hz2⟩ := info_parts info_int
  obtain ⟨w', hrun, h2, h3⟩ := run_append_fits (P := Tryd.prog) (w.alloc (.cells #[vi n] 3)) base 22 o.type 3 i0 1 Tryd.underlying22 hi hz1 g xs.length cap (xs.map vi) (hown.alloc _)
    ⟨w.heap.size, 0, none⟩ 1 1 [vi n] rfl (cell_one_new _ _ _) (by simp [Value.oneCell']) (by omega)
  unfold Oper.wp execOp
  simp only [ho, resolve, invoke, builtin, Sem.run_bind, Sem.run_pure, Result.andThen_ok, List.map_toArray, List.map_cons, List.map_nil, hs, hx, hrun]
  refine h w' ?_ (grownBy_trans (World.grownBy_alloc w _ _) h3)
  have e : (xs ++ [n]).length = xs.length + 1 := by simp
  rw [Own, e, List.map_append]
  exact h2

set_option maxRecDepth 100000 in
set_option maxHeartbeats 2000000 in
theorem folded_any (p S D b : Nat) [NeZero p] (n h : Nat) (hn : n = 2 * h) (hh : 0 < h) (s : Fin p) (A : Option Addr) (cap : Nat) (xs : List Int) (hml : xs.length = n) (hxs : ∀ x ∈ xs, I64 x) (r : Int) (hr : I64 r) (w : World) (hD : Dom w S D b p n s) (hs : SL w A xs) :
    Calls Tryd.prog 100 #[.pointer (some ⟨D, 0, none⟩), .slice A n cap, vi r] w fun e w' => Made (fvs (foldL s (rootI p n) h (els p xs) (el p r))) w e w' := by
  have hp2 := hD.fld.max
  have hn1 := hD.size.le
  have hd1 := hD.c1
  have hmk := make_ints0 h (by omega)
  have hone := fun (i : Nat) (hi : i < n) (x y : Int) (hx : I64 x) (hy : I64 y) (W : World) hDW => one_any p S D b n s i hi x y r hx hy hr W hDW
  have HONE := Lib.hid hone
  have hDle := hD.le
  have HML := Lib.hid hml
  have HN := Lib.hid hn
  have hhn : h < n := by omega
  obtain ⟨l, hl⟩ : ∃ l, l = foldL s (rootI p n) h (els p xs) (el p r) := ⟨_, rfl⟩
  rw [← hl]
  have hll : l.length = h := by rw [hl, foldL_length]
  have HLL := Lib.hid hll
  have HL := Lib.hid hl
  have t2 : (n : Int).tdiv 2 = (h : Int) := by rw [Int.tdiv_eq_ediv_of_nonneg (by omega)]; omega
  have t3 : (n : Int) / 2 = (h : Int) := by omega
  clear hone hml hn hl hll
  go_enter Tryd.func100, Tryd.ntmps100
  go_wp2_with fail
  refine (size_any D n _ hd1).mono ?_
  rintro e w' ⟨rfl, rfl⟩
  go_wp2
  clear t2 t3
  go_loopw [8, 16] (fun v i wr => FoldRel l h w v i wr) (fun _ i _ => h - (intOf i).toNat)
  case atStart => exact ⟨0, w.heap.size, Nat.zero_le _, rfl, rfl, own_made0 w _ h (Nat.le_refl _) (by omega), (Below.refl _ _).alloc (Nat.le_refl _) _⟩
  case round =>
    obtain ⟨k, g, hk, rfl, rfl, hown, hb⟩ := hrel
    have hDr := hD.below hb hDle
    by_cases hkh : k < h
    · have hsw := hs.below hb
      have hkx : k < xs.length := by rw [HML.out]; omega
      have hkx2 : k + h < xs.length := by rw [HML.out, HN.out]; omega
      obtain ⟨ad, rfl, _, hc1⟩ := hsw.at_ hkx
      obtain ⟨ad', he, _, hc2⟩ := hsw.at_ hkx2
      injection he with he
      subst he
      obtain ⟨ad2, he2, hab, _⟩ := hs.at_ hkx
      injection he2 with he2
      subst he2
      have hgl := (hown.lt g rfl).1
      have hk1 : some (ad.add k).block ≠ some g := by rw [block_of_add]; intro e; injection e with e; omega
      have hk2 : some (ad.add (k + h)).block ≠ some g := by rw [block_of_add]; intro e; injection e with e; omega
      have ix := hxs _ (List.getElem_mem hkx)
      have iy := hxs _ (List.getElem_mem hkx2)
      have hcx : co (els p xs) k = el p xs[k] := by rw [co_of_lt (by simpa using hkx)]; simp
      have hcy : co (els p xs) (k + h) = el p xs[k + h] := by rw [co_of_lt (by simpa using hkx2)]; simp
      have h2 := map_take_succ fv l k (by rw [HLL.out]; exact hkh)
      have h3 : l[k]'(by rw [HLL.out]; exact hkh) = foldE (co (els p xs) k) (co (els p xs) (k + h)) (el p r) (s * pw (rootI p n) k) := by
        rw [← co_of_lt (by rw [HLL.out]; exact hkh), HL.out, foldL, co_tab, if_pos hkh]
      obtain ⟨x, hx⟩ : ∃ x, x = xs[k] := ⟨_, rfl⟩
      obtain ⟨y, hy⟩ : ∃ y, y = xs[k + h] := ⟨_, rfl⟩
      rw [← hx] at hc1 ix hcx
      rw [← hy] at hc2 iy hcy
      rw [h3, hcx, hcy] at h2
      have h1 := fun W hDW => HONE.out k (by omega) x y ix iy W hDW
      obtain ⟨Z, hZ⟩ : ∃ Z, Z = foldE (el p x) (el p y) (el p r) (s * pw (rootI p n) k) := ⟨_, rfl⟩
      rw [← hZ] at h1 h2
      have hlk : ((fvs l).take k).length = k := by rw [List.length_take, List.length_map, HLL.out]; omega
      have H1 := Lib.hid h1
      have H2 := Lib.hid h2
      have HLK := Lib.hid hlk
      have i1 : (0 : Int) ≤ k := by omega
      have i2 : (k : Int) < n := by omega
      have i3 : (0 : Int) ≤ (k : Int) + h := by omega
      have i4 : (k : Int) + h < n := by have := HN.out; omega
      have i5 : ((k : Int) + h).toNat = k + h := by omega
      have i6 : IntKind.i64.wrap ((k : Int) + h) = (k : Int) + h := IntWalk.i64_in _ (by constructor <;> omega)
      clear h1 h2 h3 hx hy hcx hcy hZ hlk
      go_wp2
      go_region_held3 (fun w' => w'.cell? (ad.add k) = some (vi x) ∧ w'.cell? (ad.add (k + h)) = some (vi y)) (first | exact ⟨hc1, hc2⟩ | go_keep | exact ⟨hg.cell hc1 hk1, hg.cell hc2 hk2⟩) ((first | (go_at_call 122; refine (H1.out _ (hDr.drewN _)).mono ?_; rintro e w' ⟨rfl, k3, rfl⟩) | (refine step_app1_fits _ _ (fv Z) (by rfl) (by rfl) _ _ (by rfl) w.heap.size g k h _ (by rfl) (by rfl) (hown.drewN _) HLK.out.symm hkh ?_; intro w1 hown1 hg)))
      go_wp2
      go_roundw
      case rel => exact ⟨k + 1, g, by omega, by go_num, rfl, by rw [← H2.out]; exact hown1, (below_drewN hb _).grown hg hb.size (fun j hj => by injection hj with hj; subst hj; exact hgl)⟩
      case measure => simp [intOf]; omega
    · obtain rfl : k = h := by omega
      go_wp2
      go_ret
      rw [List.take_of_length_le (by rw [List.length_map, HLL.out]; exact Nat.le_refl _)] at hown
      exact ⟨_, rfl, hown, hb⟩

abbrev NoFold (k : Int) : Ending := .returned (.tuple #[.slice none 0 0, .iface 107 (.int .i64 k)])
theorem fold_no (D n : Nat) (A : Option Addr) (m cap : Nat) (r : Int) (h : n = 1 ∨ m ≠ n) (w : World) (hc : w.cell? ⟨D, 1, none⟩ = some (vi n)) :
    Calls Tryd.prog 59 #[.pointer (some ⟨D, 0, none⟩), .slice A m cap, vi r] w fun e w' => e = NoFold 2 ∧ w = w' := by
  have hsz := size_any D n w hc
  have HSZ := Lib.hid hsz
  clear hsz
  by_cases h1 : n = 1
  · have t1 : ((n : Int) == 1) = true := by rw [h1]; rfl
    clear h h1
    go_enter Tryd.func59, Tryd.ntmps59
    go_wp2_with fail
    refine (HSZ.out).mono ?_
    rintro e w' ⟨rfl, rfl⟩
    go_wp2
    go_ret2
    exact ⟨rfl, rfl⟩
  · have t1 : ((n : Int) == 1) = false := by rw [beq_eq_false_iff_ne]; omega
    have t2 : ((m : Int) != (n : Int)) = true := by rw [bne_iff_ne]; omega
    clear h h1
    go_enter Tryd.func59, Tryd.ntmps59
    go_wp2_with fail
    refine (HSZ.out).mono ?_
    rintro e w' ⟨rfl, rfl⟩
    go_wp2_with fail
    refine (HSZ.out).mono ?_
    rintro e w' ⟨rfl, rfl⟩
    go_wp2
    go_ret2
    exact ⟨rfl, rfl⟩

/-- a word of the call's own, and no error -/
def MadeE (xs : List Int) (w : World) (e : Ending) (w' : World) : Prop := ∃ v, e = .returned (.tuple #[v, .nilIface]) ∧ Own w' w.heap.size v xs ∧ Below w.heap.size w w'
theorem fold_any (p S D b : Nat) [NeZero p] (n h : Nat) (hn : n = 2 * h) (hh : 0 < h) (s : Fin p) (A : Option Addr) (cap : Nat) (xs : List Int) (hml : xs.length = n) (hxs : ∀ x ∈ xs, I64 x) (r : Int) (hr : I64 r) (w : World) (hD : Dom w S D b p n s) (hs : SL w A xs) :
    Calls Tryd.prog 59 #[.pointer (some ⟨D, 0, none⟩), .slice A n cap, vi r] w fun e w' => MadeE (fvs (foldL s (rootI p n) h (els p xs) (el p r))) w e w' := by
  have hsz := size_any D n w hD.c1
  have HSZ := Lib.hid hsz
  have hf := folded_any p S D b n h hn hh s A cap xs hml hxs r hr w hD hs
  have HF := Lib.hid hf
  have t1 : ((n : Int) == 1) = false := by rw [beq_eq_false_iff_ne]; omega
  have t2 : ((n : Int) != (n : Int)) = false := by simp
  clear hsz hf hml hn
  go_enter Tryd.func59, Tryd.ntmps59
  go_wp2_with fail
  refine (HSZ.out).mono ?_
  rintro e w' ⟨rfl, rfl⟩
  go_wp2_with fail
  refine (HSZ.out).mono ?_
  rintro e w' ⟨rfl, rfl⟩
  go_wp2_with fail
  refine (HF.out).mono ?_
  rintro e w1 ⟨v, rfl, hown, hb⟩
  go_wp2
  go_ret2
  exact ⟨v, rfl, hown, hb⟩
end Go.Proofs.YtkhkoeibigpdnaaDoor

/- Walks: same.Spoil; Domain.Points; the reference's Half. -/
set_option linter.unusedVariables false
namespace Go.Proofs.YtkhkoeibigpdnaaDoor
open Go.RowKit Zp

theorem grown_set (w : World) (q : Addr) (u : Value) : w.grownBy (w.setCell q u) (some q.block) :=
  ⟨rfl, rfl, rfl, by rw [World.size_setCell]; exact Nat.le_refl _, fun i _ hne => Below.heap_setCell w q u i (fun e => hne (by rw [e]))⟩
/-- all but the slice's own block lies as it did -/
def Spoils (v : Value) (w : World) (e : Ending) (w' : World) : Prop := (∃ r, e = .returned r) ∧ w.grownBy w' v.ownBlock
theorem Own.kept' {w w' : World} {base base2 : Nat} {u v : Value} {xs ys : List Int} (h : Own w base2 u xs) (hv : Own w base v ys) (hg : w.grownBy w' v.ownBlock) (hne : ∀ g, v.ownBlock = some g → g < base2) : Own w' base2 u xs :=
  h.grown hg (by
    cases hu : u.ownBlock with
    | none => exact .inl rfl
    | some k => exact .inr (fun e => by have h1 := hne k e.symm; have h2 := (h.lt k hu).1; omega))
set_option maxHeartbeats 1000000 in
theorem spoil_any (base : Nat) (v : Value) (n : Nat) (xs : List Int) (hml : xs.length = n) (hn : n ≤ 8388608) (w : World) (hbase : base ≤ w.heap.size) (hown : Own w base v xs) :
    Calls Tryd.prog 26 #[v] w fun e w' => Spoils v w e w' := by
  have hrep : ∃ ys : List Int, ys.length = n ∧ Own w base v ys := ⟨xs, hml, hown⟩
  obtain ⟨A, n1, c, rfl, hl, hc, hcm, _⟩ := hown.shapeN
  rw [hml] at hl
  subst hl
  have hg : 0 < n → ∃ g, A = some ⟨g, 0, none⟩ := fun h0 => by
    obtain ⟨g, cap, e, _⟩ := hown.block (by omega)
    injection e with e1
    exact ⟨g, e1⟩
  have HREP := Lib.hid hrep
  have HG := Lib.hid hg
  clear hrep hml hown hcm hg
  go_enter Tryd.func26, Tryd.ntmps26
  go_wp2
  go_loopw [2] (fun i wr => ∃ k : Nat, k ≤ n ∧ i = vi k ∧ (∃ ys : List Int, ys.length = n ∧ Own wr base (.slice A n c) ys) ∧ w.grownBy wr (Value.slice A n c).ownBlock) (fun i _ => n - (intOf i).toNat)
  case atStart => exact ⟨0, Nat.zero_le _, rfl, HREP.out, ⟨rfl, rfl, rfl, Nat.le_refl _, fun _ _ _ => rfl⟩⟩
  case round =>
    obtain ⟨k, hk, rfl, ⟨ys, hyl, hown⟩, hb⟩ := hrel
    have HYL := Lib.hid hyl
    clear hyl
    by_cases hkn : k < n
    · obtain ⟨g, rfl⟩ := HG.out (by omega)
      have hat := hown.at_ HYL.out.symm k (by rw [HYL.out]; exact hkn)
      have hfz := hown.frozen_ HYL.out.symm k
      have hst := hown.store HYL.out.symm k (-77)
      have hgs := grown_set wr ⟨g, k, none⟩ (vi (-77))
      generalize ys[k]'(by rw [HYL.out]; exact hkn) = y at hat
      have HST := Lib.hid hst
      clear hst hown
      go_wp2
      go_roundw
      case rel => exact ⟨k + 1, by omega, by go_num, ⟨ys.set k (-77), by rw [List.length_set]; exact HYL.out, HST.out⟩, grownBy_trans hb (by first | exact hgs | (simp only [Addr.add, Nat.zero_add]; exact hgs))⟩
      case measure => simp [intOf]; omega
    · obtain rfl : k = n := by omega
      have hlit := sl_lit' wr [-78, -79]
      have hba : Below wr.heap.size wr (wr.alloc (.cells #[vi (-78), vi (-79)] 3)) := (Below.refl _ _).alloc (Nat.le_refl _) _
      have hown' := hown.below hba
      have hsz : base ≤ (wr.alloc (.cells #[vi (-78), vi (-79)] 3)).heap.size := Nat.le_trans (Nat.le_trans hbase hb.size) hba.size
      have hb2 := grownBy_trans hb (World.grownBy_alloc wr (.cells #[vi (-78), vi (-79)] 3) _)
      go_wp2_with (at_builtin; refine wpList_appA _ rfl _ _ rfl base _ ys _ 2 2 [-78, -79] rfl rfl rfl hown' hlit (by rw [HYL.out]; omega) hsz ?_; intro v' w2 hg)
      go_end0
      exact ⟨⟨_, rfl⟩, grownBy_trans hb2 hg.grown⟩

theorem dpoints_any (p S D b : Nat) [NeZero p] (n : Nat) (s : Fin p) (w : World) (hD : Dom w S D b p n s) :
    Calls Tryd.prog 19 #[.pointer (some ⟨D, 0, none⟩)] w fun e w' => Made (fvs (powL s (rootI p n) n)) w e w' := by
  have hc2 := hD.c2
  have hc3 := hD.c3
  have hDl := Nat.lt_of_lt_of_le hD.lt hD.le
  have HP := Lib.hid (fun k => powers_any p S D b n s s (rootI p n) (w.drewN k) (hD.drewN k))
  go_enter Tryd.func19, Tryd.ntmps19
  go_upto_region 1 with (fail)
  go_region_held3 (fun w' => w'.cell? ⟨D, 2, none⟩ = some (vi (fv s)) ∧ w'.cell? ⟨D, 3, none⟩ = some (vi (fv (rootI p n)))) (first | exact ⟨hc2, hc3⟩ | exact ⟨(hb.cell (p := ⟨D, 2, none⟩) hDl).trans hc2, (hb.cell (p := ⟨D, 3, none⟩) hDl).trans hc3⟩) ((go_at_call 68; refine (HP.out _).mono ?_; rintro e w1 ⟨v, rfl, hown, hb⟩))
  all_goals go_wp2
  all_goals go_ret
  all_goals exact ⟨v, rfl, hown.more (Nat.le_refl _), ⟨hb.os, hb.tape, hb.output, hb.size, hb.block⟩⟩

set_option maxHeartbeats 1000000 in
theorem rhalf_any (q : Nat) [NeZero q] (hqm : q ≤ 2147483647) (n h : Nat) (hn : n = 2 * h) (hn2 : n ≤ 65536) (s r : Fin q) (w : World) :
    Calls Tryd.prog 29 #[RDom q n (fv s) (fv r)] w fun e w' => GivesV (RDom q h (fv (s * s)) (fv (r * r))) w e w' := by
  have h1 := fun w => rmul_any q hqm (fv s) (fv s) (i64_fv _ hqm) (i64_fv _ hqm) w
  have h2 := fun w => rmul_any q hqm (fv r) (fv r) (i64_fv _ hqm) (i64_fv _ hqm) w
  simp only [el_fv] at h1 h2
  have t2 : (n : Int).tdiv 2 = (h : Int) := by rw [Int.tdiv_eq_ediv_of_nonneg (by omega)]; omega
  have t3 : (n : Int) / 2 = (h : Int) := by omega
  generalize fv (s * s) = S at h1 ⊢
  generalize fv (r * r) = R at h2 ⊢
  have H1 := Lib.hid h1
  have H2 := Lib.hid h2
  clear h1 h2 hn
  go_enter Tryd.func29, Tryd.ntmps29
  go_wp2_with fail
  refine (H1.out _).mono ?_
  rintro e w' ⟨rfl, rfl⟩
  go_wp2_with fail
  refine (H2.out _).mono ?_
  rintro e w' ⟨rfl, rfl⟩
  go_wp2
  exact bodyPost_ret (v := RDom q h S R) (by simp [results, Tryd.results29, go_sem]) rfl ⟨rfl, ((Below.refl _ _).alloc (Nat.le_refl _) _).alloc (by simp) _⟩
end Go.Proofs.YtkhkoeibigpdnaaDoor

/- The walk of the law DomainMakes. -/
set_option linter.unusedVariables false
namespace Go.Proofs.YtkhkoeibigpdnaaDoor
open Go.RowKit Zp

theorem below_draws {w w' : World} {B : Nat} (h : ∃ k, w' = w.drewN k) : Below B w w' := by
  obtain ⟨k, rfl⟩ := h
  exact below_drewN (Below.refl _ _) k
theorem tmod_two (i : Int) (n : Nat) (hn0 : 0 < n) : ∃ (T : Int) (K : Nat), K = (i % (n : Int)).toNat ∧ i.tmod n = T ∧ -(n : Int) < T ∧ T < n ∧ K < n ∧ (T = K ∨ (T < 0 ∧ T + n = K)) := by
  have ht := tmod_emod i n hn0
  have h1 := Int.emod_nonneg i (b := (n : Int)) (by omega)
  have h2 := Int.emod_lt_of_pos i (b := (n : Int)) (by omega)
  refine ⟨i.tmod n, (i % (n : Int)).toNat, rfl, rfl, ?_, ?_, by omega, ?_⟩
  · rw [ht]; split <;> (try split) <;> omega
  · rw [ht]; split <;> (try split) <;> omega
  · rw [ht]
    split
    · left; omega
    · split
      · left; omega
      · right; omega

set_option maxRecDepth 100000 in
set_option maxHeartbeats 4000000 in
theorem dmakes_walk (w : World) (p : Int) (hp : I64 p) (size : Int) (hs : I64 size) (t : Int) (ht : I64 t) (i : Int) (hi : I64 i) (hT : Typed w) :
    Calls Tryd.prog 4 #[vi p, vi size, vi t, vi i] w fun e w' => SaysW (.bool true) w e w' := by
  by_cases hD : HasDom2 p size t
  · obtain ⟨⟨h3, hm, hpr⟩, n, rfl, hsz, h0⟩ := hD
    obtain ⟨q, rfl⟩ := Int.eq_ofNat_of_zero_le (a := p) (by omega)
    rw [Int.toNat_natCast] at hpr hsz
    haveI := hpr.ne
    have hqm : q ≤ 2147483647 := by omega
    have hq3 : 3 ≤ q := by omega
    have HM := Lib.hid (made2_yes q n hq3 hqm hpr t ht hsz h0 w hT)
    have hn := hsz.le
    have hn1 := hsz.pos
    obtain ⟨s, hsE⟩ : ∃ s, s = el q t := ⟨_, rfl⟩
    obtain ⟨r, hrE⟩ : ∃ r, r = rootI q (n : Int) := ⟨_, rfl⟩
    obtain ⟨T, K, hK, et, b1, b2, hKn, hTK⟩ := tmod_two i n hn1
    have hdp := fun S D b W hD => dpoints_any q S D b n s W hD
    have hrp := fun W => rpoints_any q hqm n hn s r W
    have hpt := fun S D b W hD => point_any q S D b n s i hi W hD
    have hVl : (fvs (powL s r n)).length = n := by rw [List.length_map, powL_length]
    have hVg : ∀ h : K < (fvs (powL s r n)).length, (fvs (powL s r n))[K] = fv (s * pw r K) := fun h => by
      rw [List.getElem_map, powL_get]
    rw [← hrE, ← hK] at hpt
    rw [← hrE] at hdp
    have hH1 : n = 1 → ∀ S D b W, Dom W S D b q n s → Calls Tryd.prog 27 #[.pointer (some ⟨D, 0, none⟩)] W fun e w' => e = NoDom 2 ∧ W = w' := fun e S D b W hD => by
      subst e
      exact half_one q S D b s W hD
    have hH2 : ∀ h, n = 2 * h → 0 < h → ∀ S D b W, Dom W S D b q n s → Calls Tryd.prog 27 #[.pointer (some ⟨D, 0, none⟩)] W fun e w' => MadeDom q b h (fv (s * s)) W e w' := fun h e h0 S D b W hD => half_any q S D b n h e h0 s W hD
    have hR2 : ∀ h, n = 2 * h → ∀ W, Calls Tryd.prog 29 #[RDom q n (fv s) (fv r)] W fun e w' => GivesV (RDom q h (fv (s * s)) (fv (r * r))) W e w' := fun h e W => rhalf_any q hqm n h e hn s r W
    have hrt : ∀ h, n = 2 * h → 0 < h → rootI q ((h : Nat) : Int) = r * r := fun h e h0 => by
      have h5 := hsz.2
      rw [e] at h5
      rw [rootI_half h0 h5 (by omega), hrE, e]
    have hev : ∀ (h : n ≠ 1), ∃ h, n = 2 * h ∧ 0 < h := fun h => by
      obtain ⟨⟨k, hk, e⟩, _⟩ := hsz
      cases k with
      | zero => simp at e; omega
      | succ k => exact ⟨2 ^ k, by rw [e, Nat.pow_succ]; omega, Nat.pow_pos (by omega)⟩
    have he := fun W hg => error_any 2 2 W hg
    rw [errV_ne (by decide), show ((2 : Int) == 2) = true from rfl] at he
    generalize fvs (powL s r n) = V at hdp hrp hVl hVg
    generalize fv (s * pw r K) = Z at hpt hVg
    have hMT : MadeTwo q n t = fun w e w' => ∃ b D : Nat, e = .returned (.tuple #[.pointer (some ⟨D, 0, none⟩), RDom q n (fv s) (fv r), .bool true]) ∧ Dom w' w'.heap.size D b q n s ∧ Below w.heap.size w w' := by rw [hsE, hrE]; rfl
    rw [hMT] at HM
    have HDP := Lib.hid hdp
    have HRP := Lib.hid hrp
    have HPT := Lib.hid hpt
    have HVL := Lib.hid hVl
    have HVG := Lib.hid hVg
    have HH1 := Lib.hid hH1
    have HH2 := Lib.hid hH2
    have HR2 := Lib.hid hR2
    have HRT := Lib.hid hrt
    have HEV := Lib.hid hev
    have HE := Lib.hid he
    clear h0 hpr hsz hdp hrp hpt hVl hVg hsE hrE hK hMT he hH1 hH2 hR2 hrt hev
    have t0 : ¬ (n : Int) = 0 := by omega
    go_enter Tryd.func4, Tryd.ntmps4
    go_wp2_with fail
    refine (HM.out).mono ?_
    rintro e w1 ⟨b, D, rfl, hD, hb1⟩
    have hba : Below w1.heap.size w1 (w1.alloc (.cells #[vi q, vi n, vi (fv s), vi (fv r)] 31)) := (Below.refl _ _).alloc (Nat.le_refl _) _
    have hrd := RD.new w1 31 q n (fv s) (fv r)
    have hltB : w1.heap.size < (w1.alloc (.cells #[vi q, vi n, vi (fv s), vi (fv r)] 31)).heap.size := by simp
    have hD2 := hD.below hba hD.fld.le
    have bw2 := hb1.trans (hba.mono hb1.size)
    have hSB : w1.heap.size ≤ w1.heap.size := Nat.le_refl _
    obtain ⟨B, hB⟩ : ∃ B, B = w1.heap.size := ⟨_, rfl⟩
    go_wp2_with fail
    rw [← hB] at hrd hltB hD2 ⊢
    have HBB := Lib.hid hB
    clear hD hba hSB hB hb1
    generalize w1.alloc (.cells #[vi q, vi n, vi (fv s), vi (fv r)] 31) = w2 at hrd hltB hD2 bw2 ⊢
    refine (HDP.out _ D b _ hD2).mono ?_
    rintro e w3 ⟨v1, rfl, hown1, hb3⟩
    have hD3 := hD2.below hb3 hD2.fld.le
    have hrd3 := hrd.below hb3 hltB
    have hlt3 := Nat.lt_of_lt_of_le hltB hb3.size
    have bw3 := bw2.trans (hb3.mono bw2.size)
    have hs23 := hb3.size
    have hs02 := bw2.size
    clear hb3 hD2 hrd bw2
    have d0 := hrd3.c0
    have d1 := hrd3.c1
    have d2 := hrd3.c2
    have d3 := hrd3.c3
    go_wp2_with fail
    refine (HRP.out _).mono ?_
    rintro e w4 ⟨v2, rfl, hown2, hb4⟩
    have hD4 := hD3.below hb4 hD3.fld.le
    have hrd4 := hrd3.below hb4 hlt3
    have hlt4 := Nat.lt_of_lt_of_le hlt3 hb4.size
    have bw4 := bw3.trans (hb4.mono bw3.size)
    have hs34 := hb4.size
    have hown14 := hown1.below hb4
    have hv1lt := fun g hg => (hown1.lt g hg).2
    clear hb4 hD3 hrd3 bw3 d0 d1 d2 d3 hown1
    obtain ⟨A1, n1, c1, rfl, hl1, hc1, _, sl1⟩ := hown14.shapeN
    rw [HVL.out] at hl1
    subst hl1
    obtain ⟨A2, n2, c2, rfl, hl2, hc2, _, sl2⟩ := hown2.shapeN
    rw [HVL.out] at hl2
    subst hl2
    obtain ⟨ad2, rfl, had2, hat2⟩ := sl2.at_ (k := K) (by rw [HVL.out]; exact hKn)
    rw [HVG.out] at hat2
    go_wp2_with fail
    refine (ints_sameH A1 (some ad2) n c1 n c2 V V HVL.out HVL.out rfl (by omega) _ sl1 sl2).mono ?_
    rintro e w5 ⟨rfl, hk5⟩
    have hb5 : Below w4.heap.size w4 w5 := below_draws hk5
    have hD5 := hD4.below hb5 hD4.fld.le
    have hrd5 := hrd4.below hb5 hlt4
    have hlt5 := Nat.lt_of_lt_of_le hlt4 hb5.size
    have bw5 := bw4.trans (hb5.mono bw4.size)
    have hs45 := hb5.size
    have hown15 := hown14.below (hb5)
    have hown25 := hown2.below hb5
    have sl25 := sl2.below hb5
    clear hb5 hk5 hD4 hrd4 bw4 hown14 hown2 sl1 sl2 hat2
    go_wp2_with fail
    refine (size_any D n _ hD5.c1).mono ?_
    rintro e w' ⟨rfl, rfl⟩
    go_wp2_with fail
    refine (dfield_any D b _ hD5.c0).mono ?_
    rintro e w' ⟨rfl, rfl⟩
    go_wp2_with fail
    refine (p_any q b _ hD5.fld.c0).mono ?_
    rintro e w' ⟨rfl, rfl⟩
    rcases hTK with hTK | ⟨hT0, hTK⟩
    · subst hTK
      go_wp2_with fail
      refine (HPT.out _ D b _ hD5).mono ?_
      rintro e w6 ⟨rfl, hk6⟩
      have hb6 : Below w5.heap.size w5 w6 := below_draws hk6
      have hD6 := hD5.below hb6 hD5.fld.le
      have hrd6 := hrd5.below hb6 hlt5
      have hlt6 := Nat.lt_of_lt_of_le hlt5 hb6.size
      have bw6 := bw5.trans (hb6.mono bw5.size)
      have hs56 := hb6.size
      have hown16 := hown15.below hb6
      have hown26 := hown25.below hb6
      have sl26 := sl25.below hb6
      clear hb6 hk6 hD5 hrd5 bw5 hown15 hown25 sl25
      obtain ⟨ad3, hE3, had3, hat2⟩ := sl26.at_ (k := K) (by rw [HVL.out]; exact hKn)
      injection hE3 with hE3
      subst hE3
      rw [HVG.out] at hat2
      go_wp2_with fail
      refine (spoil_any w2.heap.size _ n V HVL.out (by omega) _ (by omega) hown16).mono ?_
      rintro e w7 ⟨⟨r7, rfl⟩, hg7⟩
      have hb7 : Below w2.heap.size w6 w7 := (Below.refl _ w6).grown hg7 (by omega) (fun k hk => (hown16.lt k hk).1)
      have hD7 := hD6.below hb7 (by omega)
      have hrd7 := hrd6.below hb7 (by omega)
      have hlt7 := Nat.lt_of_lt_of_le hlt6 hb7.size
      have bw7 := bw6.grown hg7 bw6.size (fun k hk => by have h1 := (hown16.lt k hk).1; omega)
      have hs67 := hb7.size
      have hown27 := hown26.kept' hown16 hg7 hv1lt
      clear hb7 hD6 hrd6 bw6 hown16 hown26 hg7 hat2 sl26
      go_wp2_with fail
      refine (HDP.out _ D b _ hD7).mono ?_
      rintro e w8 ⟨v3, rfl, hown38, hb8⟩
      have hD8 := hD7.below hb8 hD7.fld.le
      have hrd8 := hrd7.below hb8 hlt7
      have hlt8 := Nat.lt_of_lt_of_le hlt7 hb8.size
      have bw8 := bw7.trans (hb8.mono bw7.size)
      have hs78 := hb8.size
      have hown28 := hown27.below hb8
      clear hb8 hD7 hrd7 bw7 hown27
      obtain ⟨A3, n3, c3, rfl, hl3, hc3, _, sl3⟩ := hown38.shapeN
      rw [HVL.out] at hl3
      subst hl3
      have sl28 := hown28.shapeN
      obtain ⟨A2', n2', c2', hE2, hl2', _, _, sl28⟩ := sl28
      rw [HVL.out] at hl2'
      subst hl2'
      injection hE2 with hE2 _ hE2c
      subst hE2
      subst hE2c
      go_wp2_with fail
      refine (ints_sameH A3 _ n c3 n _ V V HVL.out HVL.out rfl (by omega) _ sl3 sl28).mono ?_
      rintro e w9 ⟨rfl, hk9⟩
      have hb9 : Below w8.heap.size w8 w9 := below_draws hk9
      have hD9 := hD8.below hb9 hD8.fld.le
      have hrd9 := hrd8.below hb9 hlt8
      have hlt9 := Nat.lt_of_lt_of_le hlt8 hb9.size
      have bw9 := bw8.trans (hb9.mono bw8.size)
      have hs89 := hb9.size
      clear hb9 hk9 hD8 hrd8 bw8 hown28 hown38 sl3 sl28
      by_cases h1 : n = 1
      · have t1 : ((n : Int) == 1) = true := by rw [beq_iff_eq]; omega
        have HN1 := Lib.hid h1
        clear h1
        go_wp2_with fail
        refine (HH1.out HN1.out _ D b _ hD9).mono ?_
        rintro e w' ⟨rfl, rfl⟩
        go_wp2_with fail
        refine (HE.out _ (hT.below bw9)).mono ?_
        rintro e w10 ⟨rfl, hb10⟩
        go_wp2
        go_ret
        exact ⟨rfl, bw9.trans (hb10.mono bw9.size)⟩
      · have t1 : ((n : Int) == 1) = false := by rw [beq_eq_false_iff_ne]; omega
        obtain ⟨h, hnh, hh0⟩ := HEV.out h1
        have HN1 := Lib.hid hnh
        have hrt2 := HRT.out h hnh hh0
        clear h1 hnh
        go_wp2_with fail
        refine (HH2.out h HN1.out hh0 _ D b _ hD9).mono ?_
        rintro e w10 ⟨D', rfl, hD', hb10, _⟩
        rw [el_fv] at hD'
        have hrd10 := hrd9.below hb10 hlt9
        have bw10 := bw9.trans (hb10.mono bw9.size)
        have hs910 := hb10.size
        clear hb10 hD9 hrd9 bw9
        have d0 := hrd10.c0
        have d1 := hrd10.c1
        have d2 := hrd10.c2
        have d3 := hrd10.c3
        go_wp2_with fail
        refine (HR2.out h HN1.out _).mono ?_
        rintro e w11 ⟨rfl, hb11⟩
        have hD11 := hD'.below hb11 hD'.fld.le
        have bw11 := bw10.trans (hb11.mono bw10.size)
        have hs1011 := hb11.size
        clear hb11 hD' hrd10 bw10 d0 d1 d2 d3
        have hba : Below w11.heap.size w11 (w11.alloc (.cells #[vi q, vi h, vi (fv (s * s)), vi (fv (r * r))] 31)) := (Below.refl _ _).alloc (Nat.le_refl _) _
        have hrd := RD.new w11 31 q h (fv (s * s)) (fv (r * r))
        have hltB2 : w11.heap.size < (w11.alloc (.cells #[vi q, vi h, vi (fv (s * s)), vi (fv (r * r))] 31)).heap.size := by simp
        have hD12 := hD11.below hba hD11.fld.le
        have bw12 := bw11.trans (hba.mono bw11.size)
        obtain ⟨B2, hB2⟩ : ∃ B2, B2 = w11.heap.size := ⟨_, rfl⟩
        have hdp2 := fun W hD => dpoints_any q w10.heap.size D' b h (s * s) W hD
        rw [hrt2] at hdp2
        have hrp2 := fun W => rpoints_any q hqm h (by have := HN1.out; omega) (s * s) (r * r) W
        have hVl2 : (fvs (powL (s * s) (r * r) h)).length = h := by rw [List.length_map, powL_length]
        generalize fvs (powL (s * s) (r * r) h) = V2 at hdp2 hrp2 hVl2
        have HDP2 := Lib.hid hdp2
        have HRP2 := Lib.hid hrp2
        have HVL2 := Lib.hid hVl2
        have HSZ := Lib.hid (show h ≤ 65536 by have := HN1.out; omega)
        clear hdp2 hrp2 hVl2 hrt2
        go_wp2_with fail
        rw [← hB2] at hrd hltB2 ⊢
        clear hD11 hba hB2 bw11
        generalize w11.alloc (.cells #[vi q, vi h, vi (fv (s * s)), vi (fv (r * r))] 31) = w12 at hrd hltB2 hD12 bw12 ⊢
        refine (HDP2.out _ hD12).mono ?_
        rintro e w13 ⟨v4, rfl, hown4, hb13⟩
        have hrd13 := hrd.below hb13 hltB2
        have bw13 := bw12.trans (hb13.mono bw12.size)
        clear hb13 hrd bw12 hD12
        have d0 := hrd13.c0
        have d1 := hrd13.c1
        have d2 := hrd13.c2
        have d3 := hrd13.c3
        go_wp2_with fail
        refine (HRP2.out _).mono ?_
        rintro e w14 ⟨v5, rfl, hown5, hb14⟩
        have hown4b := hown4.below hb14
        have bw14 := bw13.trans (hb14.mono bw13.size)
        clear hb14 hrd13 bw13 hown4 d0 d1 d2 d3
        obtain ⟨A4, n4, c4, rfl, hl4, hc4, _, sl4⟩ := hown4b.shapeN
        obtain ⟨A5, n5, c5, rfl, hl5, hc5, _, sl5⟩ := hown5.shapeN
        have HL4 := Lib.hid hl4
        have HL5 := Lib.hid hl5
        have HSZ4 := Lib.hid (show n4 ≤ 9223372036854775807 by have h1 := HVL2.out; have h2 := HSZ.out; omega)
        clear hl4 hl5 hown4b hown5
        go_wp2_with fail
        refine (ints_sameH A4 A5 n4 c4 n5 c5 V2 V2 HL4.out HL5.out rfl HSZ4.out _ sl4 sl5).mono ?_
        rintro e w15 ⟨rfl, hk15⟩
        have hb15 : Below w14.heap.size w14 w15 := below_draws hk15
        clear hk15
        go_wp2
        go_ret
        exact ⟨rfl, bw14.trans (hb15.mono bw14.size)⟩
    · go_wp2_with fail
      refine (HPT.out _ D b _ hD5).mono ?_
      rintro e w6 ⟨rfl, hk6⟩
      have hb6 : Below w5.heap.size w5 w6 := below_draws hk6
      have hD6 := hD5.below hb6 hD5.fld.le
      have hrd6 := hrd5.below hb6 hlt5
      have hlt6 := Nat.lt_of_lt_of_le hlt5 hb6.size
      have bw6 := bw5.trans (hb6.mono bw5.size)
      have hs56 := hb6.size
      have hown16 := hown15.below hb6
      have hown26 := hown25.below hb6
      have sl26 := sl25.below hb6
      clear hb6 hk6 hD5 hrd5 bw5 hown15 hown25 sl25
      obtain ⟨ad3, hE3, had3, hat2⟩ := sl26.at_ (k := K) (by rw [HVL.out]; exact hKn)
      injection hE3 with hE3
      subst hE3
      rw [HVG.out] at hat2
      go_wp2_with fail
      refine (spoil_any w2.heap.size _ n V HVL.out (by omega) _ (by omega) hown16).mono ?_
      rintro e w7 ⟨⟨r7, rfl⟩, hg7⟩
      have hb7 : Below w2.heap.size w6 w7 := (Below.refl _ w6).grown hg7 (by omega) (fun k hk => (hown16.lt k hk).1)
      have hD7 := hD6.below hb7 (by omega)
      have hrd7 := hrd6.below hb7 (by omega)
      have hlt7 := Nat.lt_of_lt_of_le hlt6 hb7.size
      have bw7 := bw6.grown hg7 bw6.size (fun k hk => by have h1 := (hown16.lt k hk).1; omega)
      have hs67 := hb7.size
      have hown27 := hown26.kept' hown16 hg7 hv1lt
      clear hb7 hD6 hrd6 bw6 hown16 hown26 hg7 hat2 sl26
      go_wp2_with fail
      refine (HDP.out _ D b _ hD7).mono ?_
      rintro e w8 ⟨v3, rfl, hown38, hb8⟩
      have hD8 := hD7.below hb8 hD7.fld.le
      have hrd8 := hrd7.below hb8 hlt7
      have hlt8 := Nat.lt_of_lt_of_le hlt7 hb8.size
      have bw8 := bw7.trans (hb8.mono bw7.size)
      have hs78 := hb8.size
      have hown28 := hown27.below hb8
      clear hb8 hD7 hrd7 bw7 hown27
      obtain ⟨A3, n3, c3, rfl, hl3, hc3, _, sl3⟩ := hown38.shapeN
      rw [HVL.out] at hl3
      subst hl3
      have sl28 := hown28.shapeN
      obtain ⟨A2', n2', c2', hE2, hl2', _, _, sl28⟩ := sl28
      rw [HVL.out] at hl2'
      subst hl2'
      injection hE2 with hE2 _ hE2c
      subst hE2
      subst hE2c
      go_wp2_with fail
      refine (ints_sameH A3 _ n c3 n _ V V HVL.out HVL.out rfl (by omega) _ sl3 sl28).mono ?_
      rintro e w9 ⟨rfl, hk9⟩
      have hb9 : Below w8.heap.size w8 w9 := below_draws hk9
      have hD9 := hD8.below hb9 hD8.fld.le
      have hrd9 := hrd8.below hb9 hlt8
      have hlt9 := Nat.lt_of_lt_of_le hlt8 hb9.size
      have bw9 := bw8.trans (hb9.mono bw8.size)
      have hs89 := hb9.size
      clear hb9 hk9 hD8 hrd8 bw8 hown28 hown38 sl3 sl28
      by_cases h1 : n = 1
      · have t1 : ((n : Int) == 1) = true := by rw [beq_iff_eq]; omega
        have HN1 := Lib.hid h1
        clear h1
        go_wp2_with fail
        refine (HH1.out HN1.out _ D b _ hD9).mono ?_
        rintro e w' ⟨rfl, rfl⟩
        go_wp2_with fail
        refine (HE.out _ (hT.below bw9)).mono ?_
        rintro e w10 ⟨rfl, hb10⟩
        go_wp2
        go_ret
        exact ⟨rfl, bw9.trans (hb10.mono bw9.size)⟩
      · have t1 : ((n : Int) == 1) = false := by rw [beq_eq_false_iff_ne]; omega
        obtain ⟨h, hnh, hh0⟩ := HEV.out h1
        have HN1 := Lib.hid hnh
        have hrt2 := HRT.out h hnh hh0
        clear h1 hnh
        go_wp2_with fail
        refine (HH2.out h HN1.out hh0 _ D b _ hD9).mono ?_
        rintro e w10 ⟨D', rfl, hD', hb10, _⟩
        rw [el_fv] at hD'
        have hrd10 := hrd9.below hb10 hlt9
        have bw10 := bw9.trans (hb10.mono bw9.size)
        have hs910 := hb10.size
        clear hb10 hD9 hrd9 bw9
        have d0 := hrd10.c0
        have d1 := hrd10.c1
        have d2 := hrd10.c2
        have d3 := hrd10.c3
        go_wp2_with fail
        refine (HR2.out h HN1.out _).mono ?_
        rintro e w11 ⟨rfl, hb11⟩
        have hD11 := hD'.below hb11 hD'.fld.le
        have bw11 := bw10.trans (hb11.mono bw10.size)
        have hs1011 := hb11.size
        clear hb11 hD' hrd10 bw10 d0 d1 d2 d3
        have hba : Below w11.heap.size w11 (w11.alloc (.cells #[vi q, vi h, vi (fv (s * s)), vi (fv (r * r))] 31)) := (Below.refl _ _).alloc (Nat.le_refl _) _
        have hrd := RD.new w11 31 q h (fv (s * s)) (fv (r * r))
        have hltB2 : w11.heap.size < (w11.alloc (.cells #[vi q, vi h, vi (fv (s * s)), vi (fv (r * r))] 31)).heap.size := by simp
        have hD12 := hD11.below hba hD11.fld.le
        have bw12 := bw11.trans (hba.mono bw11.size)
        obtain ⟨B2, hB2⟩ : ∃ B2, B2 = w11.heap.size := ⟨_, rfl⟩
        have hdp2 := fun W hD => dpoints_any q w10.heap.size D' b h (s * s) W hD
        rw [hrt2] at hdp2
        have hrp2 := fun W => rpoints_any q hqm h (by have := HN1.out; omega) (s * s) (r * r) W
        have hVl2 : (fvs (powL (s * s) (r * r) h)).length = h := by rw [List.length_map, powL_length]
        generalize fvs (powL (s * s) (r * r) h) = V2 at hdp2 hrp2 hVl2
        have HDP2 := Lib.hid hdp2
        have HRP2 := Lib.hid hrp2
        have HVL2 := Lib.hid hVl2
        have HSZ := Lib.hid (show h ≤ 65536 by have := HN1.out; omega)
        clear hdp2 hrp2 hVl2 hrt2
        go_wp2_with fail
        rw [← hB2] at hrd hltB2 ⊢
        clear hD11 hba hB2 bw11
        generalize w11.alloc (.cells #[vi q, vi h, vi (fv (s * s)), vi (fv (r * r))] 31) = w12 at hrd hltB2 hD12 bw12 ⊢
        refine (HDP2.out _ hD12).mono ?_
        rintro e w13 ⟨v4, rfl, hown4, hb13⟩
        have hrd13 := hrd.below hb13 hltB2
        have bw13 := bw12.trans (hb13.mono bw12.size)
        clear hb13 hrd bw12 hD12
        have d0 := hrd13.c0
        have d1 := hrd13.c1
        have d2 := hrd13.c2
        have d3 := hrd13.c3
        go_wp2_with fail
        refine (HRP2.out _).mono ?_
        rintro e w14 ⟨v5, rfl, hown5, hb14⟩
        have hown4b := hown4.below hb14
        have bw14 := bw13.trans (hb14.mono bw13.size)
        clear hb14 hrd13 bw13 hown4 d0 d1 d2 d3
        obtain ⟨A4, n4, c4, rfl, hl4, hc4, _, sl4⟩ := hown4b.shapeN
        obtain ⟨A5, n5, c5, rfl, hl5, hc5, _, sl5⟩ := hown5.shapeN
        have HL4 := Lib.hid hl4
        have HL5 := Lib.hid hl5
        have HSZ4 := Lib.hid (show n4 ≤ 9223372036854775807 by have h1 := HVL2.out; have h2 := HSZ.out; omega)
        clear hl4 hl5 hown4b hown5
        go_wp2_with fail
        refine (ints_sameH A4 A5 n4 c4 n5 c5 V2 V2 HL4.out HL5.out rfl HSZ4.out _ sl4 sl5).mono ?_
        rintro e w15 ⟨rfl, hk15⟩
        have hb15 : Below w14.heap.size w14 w15 := below_draws hk15
        clear hk15
        go_wp2
        go_ret
        exact ⟨rfl, bw14.trans (hb15.mono bw14.size)⟩
  · have HN := Lib.hid (made2_no p size t hp hs ht hD w hT)
    clear hD
    go_enter Tryd.func4, Tryd.ntmps4
    go_wp2_with fail
    refine (HN.out).mono ?_
    rintro e w1 ⟨rfl, hb1⟩
    go_wp2
    go_ret
    exact ⟨rfl, hb1.alloc hb1.size _⟩
end Go.Proofs.YtkhkoeibigpdnaaDoor

/- Walks: bits.Len of powers of two, sums.variables. -/
set_option linter.unusedVariables false
namespace Go.Proofs.YtkhkoeibigpdnaaDoor
open Go.RowKit Zp

set_option maxRecDepth 1000000 in
set_option maxHeartbeats 1000000 in
theorem len64_0 (w : World) :
    Calls Tryd.prog 133 #[.int .u64 1] w fun e w' => e = .returned (vi 1) ∧ w = w' := by
  go_enter Tryd.func133, Tryd.ntmps133
  go_wp2
  go_ret
  exact ⟨ret_int (by kernel_rfl), rfl⟩
set_option maxRecDepth 1000000 in
set_option maxHeartbeats 1000000 in
theorem len64_1 (w : World) :
    Calls Tryd.prog 133 #[.int .u64 2] w fun e w' => e = .returned (vi 2) ∧ w = w' := by
  go_enter Tryd.func133, Tryd.ntmps133
  go_wp2
  go_ret
  exact ⟨ret_int (by kernel_rfl), rfl⟩
set_option maxRecDepth 1000000 in
set_option maxHeartbeats 1000000 in
theorem len64_2 (w : World) :
    Calls Tryd.prog 133 #[.int .u64 4] w fun e w' => e = .returned (vi 3) ∧ w = w' := by
  go_enter Tryd.func133, Tryd.ntmps133
  go_wp2
  go_ret
  exact ⟨ret_int (by kernel_rfl), rfl⟩
set_option maxRecDepth 1000000 in
set_option maxHeartbeats 1000000 in
theorem len64_3 (w : World) :
    Calls Tryd.prog 133 #[.int .u64 8] w fun e w' => e = .returned (vi 4) ∧ w = w' := by
  go_enter Tryd.func133, Tryd.ntmps133
  go_wp2
  go_ret
  exact ⟨ret_int (by kernel_rfl), rfl⟩
set_option maxRecDepth 1000000 in
set_option maxHeartbeats 1000000 in
theorem len64_4 (w : World) :
    Calls Tryd.prog 133 #[.int .u64 16] w fun e w' => e = .returned (vi 5) ∧ w = w' := by
  go_enter Tryd.func133, Tryd.ntmps133
  go_wp2
  go_ret
  exact ⟨ret_int (by kernel_rfl), rfl⟩
set_option maxRecDepth 1000000 in
set_option maxHeartbeats 1000000 in
theorem len64_5 (w : World) :
    Calls Tryd.prog 133 #[.int .u64 32] w fun e w' => e = .returned (vi 6) ∧ w = w' := by
  go_enter Tryd.func133, Tryd.ntmps133
  go_wp2
  go_ret
  exact ⟨ret_int (by kernel_rfl), rfl⟩
set_option maxRecDepth 1000000 in
set_option maxHeartbeats 1000000 in
theorem len64_6 (w : World) :
    Calls Tryd.prog 133 #[.int .u64 64] w fun e w' => e = .returned (vi 7) ∧ w = w' := by
  go_enter Tryd.func133, Tryd.ntmps133
  go_wp2
  go_ret
  exact ⟨ret_int (by kernel_rfl), rfl⟩
set_option maxRecDepth 1000000 in
set_option maxHeartbeats 1000000 in
theorem len64_7 (w : World) :
    Calls Tryd.prog 133 #[.int .u64 128] w fun e w' => e = .returned (vi 8) ∧ w = w' := by
  go_enter Tryd.func133, Tryd.ntmps133
  go_wp2
  go_ret
  exact ⟨ret_int (by kernel_rfl), rfl⟩
set_option maxRecDepth 1000000 in
set_option maxHeartbeats 1000000 in
theorem len64_8 (w : World) :
    Calls Tryd.prog 133 #[.int .u64 256] w fun e w' => e = .returned (vi 9) ∧ w = w' := by
  go_enter Tryd.func133, Tryd.ntmps133
  go_wp2
  go_ret
  exact ⟨ret_int (by kernel_rfl), rfl⟩
set_option maxRecDepth 1000000 in
set_option maxHeartbeats 1000000 in
theorem len64_9 (w : World) :
    Calls Tryd.prog 133 #[.int .u64 512] w fun e w' => e = .returned (vi 10) ∧ w = w' := by
  go_enter Tryd.func133, Tryd.ntmps133
  go_wp2
  go_ret
  exact ⟨ret_int (by kernel_rfl), rfl⟩
set_option maxRecDepth 1000000 in
set_option maxHeartbeats 1000000 in
theorem len64_10 (w : World) :
    Calls Tryd.prog 133 #[.int .u64 1024] w fun e w' => e = .returned (vi 11) ∧ w = w' := by
  go_enter Tryd.func133, Tryd.ntmps133
  go_wp2
  go_ret
  exact ⟨ret_int (by kernel_rfl), rfl⟩
set_option maxRecDepth 1000000 in
set_option maxHeartbeats 1000000 in
theorem len64_11 (w : World) :
    Calls Tryd.prog 133 #[.int .u64 2048] w fun e w' => e = .returned (vi 12) ∧ w = w' := by
  go_enter Tryd.func133, Tryd.ntmps133
  go_wp2
  go_ret
  exact ⟨ret_int (by kernel_rfl), rfl⟩
set_option maxRecDepth 1000000 in
set_option maxHeartbeats 1000000 in
theorem len64_12 (w : World) :
    Calls Tryd.prog 133 #[.int .u64 4096] w fun e w' => e = .returned (vi 13) ∧ w = w' := by
  go_enter Tryd.func133, Tryd.ntmps133
  go_wp2
  go_ret
  exact ⟨ret_int (by kernel_rfl), rfl⟩
theorem len_pow (n v : Nat) (h : Cube n v) (w : World) :
    Calls Tryd.prog 115 #[.int .u64 n] w fun e w' => e = .returned (vi ((v : Int) + 1)) ∧ w = w' := by
  obtain ⟨hv, rfl⟩ := h
  have H : ∀ W, Calls Tryd.prog 133 #[.int .u64 ((2 ^ v : Nat) : Int)] W fun e w' => e = .returned (vi ((v : Int) + 1)) ∧ W = w' := by
    intro W
    rcases v with _ | _ | _ | _ | _ | _ | _ | _ | _ | _ | _ | _ | _ | v
    · exact len64_0 W
    · exact len64_1 W
    · exact len64_2 W
    · exact len64_3 W
    · exact len64_4 W
    · exact len64_5 W
    · exact len64_6 W
    · exact len64_7 W
    · exact len64_8 W
    · exact len64_9 W
    · exact len64_10 W
    · exact len64_11 W
    · exact len64_12 W
    · omega
  obtain ⟨n, hn⟩ : ∃ n, n = 2 ^ v := ⟨_, rfl⟩
  rw [← hn] at H ⊢
  have h1 : 1 ≤ n := by rw [hn]; exact Nat.pow_pos (by omega)
  have h2 : n ≤ 4096 := by rw [hn]; exact Nat.pow_le_pow_right (n := 2) (by omega) hv
  have h3 := Lib.hid H
  clear H hn
  go_enter Tryd.func115, Tryd.ntmps115
  go_wp2_with fail
  refine (h3.out _).mono ?_
  rintro e w' ⟨rfl, rfl⟩
  go_wp2
  go_ret
  exact ⟨rfl, rfl⟩

theorem variables_yes (A : Option Addr) (n cap v : Nat) (h : Cube n v) (w : World) :
    Calls Tryd.prog 84 #[.slice A n cap] w fun e w' => e = .returned (vi (v : Int)) ∧ w = w' := by
  have h1 := h.pos
  have h2 := h.le
  have hv := h.1
  have t0 : ((n : Int) == 0) = false := by rw [beq_eq_false_iff_ne]; omega
  have t1 : (bits .and .i64 (n : Int) ((n : Int) - 1) != 0) = false := by rw [and_pred n h1 (by omega), h.and]; rfl
  have hl := Lib.hid (len_pow n v h)
  clear h
  go_enter Tryd.func84, Tryd.ntmps84
  go_wp2_with fail
  refine (hl.out _).mono ?_
  rintro e w' ⟨rfl, rfl⟩
  go_wp2
  go_ret
  exact ⟨ret_int (by omega), rfl⟩

theorem variables_no (A : Option Addr) (n cap : Nat) (hn : n < 9223372036854775808) (h : ¬ IsCube n) (w : World) :
    Calls Tryd.prog 84 #[.slice A n cap] w fun e w' => e = .returned (vi (-1)) ∧ w = w' := by
  rw [isCube_iff] at h
  by_cases h1 : n = 0
  · have t0 : ((n : Int) == 0) = true := by rw [h1]; rfl
    clear h h1
    go_enter Tryd.func84, Tryd.ntmps84
    go_wp2
    go_ret
    exact ⟨rfl, rfl⟩
  · have t0 : ((n : Int) == 0) = false := by rw [beq_eq_false_iff_ne]; omega
    by_cases h2 : n ≤ 4096
    · have ha := and_pred n (by omega) (by omega)
      have t1 : (bits .and .i64 (n : Int) ((n : Int) - 1) != 0) = true := by
        rw [ha, bne_iff_ne]
        intro e
        exact h ⟨by omega, by omega, h2⟩
      clear h h1 ha
      go_enter Tryd.func84, Tryd.ntmps84
      go_wp2
      go_ret
      exact ⟨rfl, rfl⟩
    · have h3 : 4096 < n := by omega
      have hw : IntKind.i64.wrap ((n : Int) - 1) = (n : Int) - 1 := IntWalk.i64_in _ (by constructor <;> omega)
      clear h h1 h2
      cases t1 : (bits .and .i64 (n : Int) ((n : Int) - 1) != 0)
      · go_enter Tryd.func84, Tryd.ntmps84
        go_wp2
        go_ret
        exact ⟨rfl, rfl⟩
      · go_enter Tryd.func84, Tryd.ntmps84
        go_wp2
        go_ret
        exact ⟨rfl, rfl⟩
end Go.Proofs.YtkhkoeibigpdnaaDoor

/- Walks: sums.fixed, Fix, Extend. -/
set_option linter.unusedVariables false
namespace Go.Proofs.YtkhkoeibigpdnaaDoor
open Go.RowKit Zp

set_option maxRecDepth 100000 in
set_option maxHeartbeats 1000000 in
theorem fixed_any (p S b : Nat) [NeZero p] (n h : Nat) (hn : n = 2 * h ∨ n = 2 * h + 1) (hn1 : n ≤ 65536) (A : Option Addr) (cap : Nat) (xs : List Int) (hml : xs.length = n) (hxs : ∀ x ∈ xs, I64 x) (r : Int) (hr : I64 r) (w : World) (F : Fld w S b p) (hs : SL w A xs) :
    Calls Tryd.prog 85 #[.pointer (some ⟨b, 0, none⟩), .slice A n cap, vi r] w fun e w' => Made (fvs (fixL h (els p xs) (el p r))) w e w' := by
  have hp1 := F.two
  have hp2 := F.max
  have hmk := make_ints0 h (by omega)
  have hbS := F.le
  have hcb := F.c0
  have hbl : b < w.heap.size := block_lt_of_cell hcb
  have HML := Lib.hid hml
  obtain ⟨l, hl⟩ : ∃ l, l = fixL h (els p xs) (el p r) := ⟨_, rfl⟩
  rw [← hl]
  have hll : l.length = h := by rw [hl, fixL_length]
  have HLL := Lib.hid hll
  have HL := Lib.hid hl
  have hh2 : 2 * h ≤ n := by omega
  have t2 : (n : Int).tdiv 2 = (h : Int) := by rw [Int.tdiv_eq_ediv_of_nonneg (by omega)]; omega
  have t3 : (n : Int) / 2 = (h : Int) := by omega
  have t4 : IntKind.i64.wrap (h : Int) = (h : Int) := IntWalk.i64_in _ (by constructor <;> omega)
  clear hml hn hl hll
  go_enter Tryd.func85, Tryd.ntmps85
  go_wp2
  clear t2 t3
  go_loopw [8, 16] (fun v i wr => FoldRel l h w v i wr) (fun _ i _ => h - (intOf i).toNat)
  case atStart => exact ⟨0, w.heap.size, Nat.zero_le _, rfl, rfl, own_made0 w _ h (Nat.le_refl _) (by omega), (Below.refl _ _).alloc (Nat.le_refl _) _⟩
  case round =>
    obtain ⟨k, g, hk, rfl, rfl, hown, hb⟩ := hrel
    have hcR : wr.cell? ⟨b, 0, none⟩ = some (vi p) := (hb.cell (p := ⟨b, 0, none⟩) hbl).trans hcb
    by_cases hkh : k < h
    · have hsw := hs.below hb
      have hkx : k < xs.length := by rw [HML.out]; omega
      have hkx2 : k + h < xs.length := by rw [HML.out]; omega
      obtain ⟨ad, rfl, _, hc1⟩ := hsw.at_ hkx
      obtain ⟨ad', he, _, hc2⟩ := hsw.at_ hkx2
      injection he with he
      subst he
      obtain ⟨ad2, he2, hab, _⟩ := hs.at_ hkx
      injection he2 with he2
      subst he2
      have hgl := (hown.lt g rfl).1
      have hk1 : some (ad.add k).block ≠ some g := by rw [block_of_add]; intro e; injection e with e; omega
      have hk2 : some (ad.add (k + h)).block ≠ some g := by rw [block_of_add]; intro e; injection e with e; omega
      have ix := hxs _ (List.getElem_mem hkx)
      have iy := hxs _ (List.getElem_mem hkx2)
      have hcx : co (els p xs) k = el p xs[k] := by rw [co_of_lt (by simpa using hkx)]; simp
      have hcy : co (els p xs) (k + h) = el p xs[k + h] := by rw [co_of_lt (by simpa using hkx2)]; simp
      have h2 := map_take_succ fv l k (by rw [HLL.out]; exact hkh)
      have h3 : l[k]'(by rw [HLL.out]; exact hkh) = fixE (co (els p xs) k) (co (els p xs) (k + h)) (el p r) := by
        rw [← co_of_lt (by rw [HLL.out]; exact hkh), HL.out, co_fixL _ _ hkh]
      obtain ⟨x, hx⟩ : ∃ x, x = xs[k] := ⟨_, rfl⟩
      obtain ⟨y, hy⟩ : ∃ y, y = xs[k + h] := ⟨_, rfl⟩
      rw [← hx] at hc1 ix hcx
      rw [← hy] at hc2 iy hcy
      rw [h3, hcx, hcy, fixE] at h2
      have hlk : ((fvs l).take k).length = k := by rw [List.length_take, List.length_map, HLL.out]; omega
      have H2 := Lib.hid h2
      have HLK := Lib.hid hlk
      have h1I : I64 1 := by constructor <;> decide
      have i1 : (0 : Int) ≤ k := by omega
      have i2 : (k : Int) < n := by omega
      have i3 : (0 : Int) ≤ (k : Int) + h := by omega
      have i4 : (k : Int) + h < n := by omega
      have i5 : ((k : Int) + h).toNat = k + h := by omega
      have i6 : IntKind.i64.wrap ((k : Int) + h) = (k : Int) + h := IntWalk.i64_in _ (by constructor <;> omega)
      clear h2 h3 hx hy hcx hcy hlk
      go_wp2
      go_region_held3 (fun w' => w'.cell? (ad.add k) = some (vi x) ∧ w'.cell? (ad.add (k + h)) = some (vi y)) (first | exact ⟨hc1, hc2⟩ | go_keep | exact ⟨hg.cell hc1 hk1, hg.cell hc2 hk2⟩) ((first | (go_at_call 109; refine (sub_any p hp2 b _ _ h1I hr _ (by exact hcR)).mono ?_; rintro e w' ⟨rfl, rfl⟩) | (go_at_call 70; refine (mul_any p hp2 b _ _ (by first | assumption | exact i64_fv _ hp2) (by first | assumption | exact i64_fv _ hp2) _ (by exact hcR)).mono ?_; rintro e w' ⟨rfl, k3, rfl⟩) | (go_at_call 73; refine (add_any p hp2 b _ _ (by first | assumption | exact i64_fv _ hp2) (by first | assumption | exact i64_fv _ hp2) _ (by exact hcR)).mono ?_; rintro e w' ⟨rfl, k5, rfl⟩) | (refine step_app1_fits _ _ _ (by rfl) (by rfl) _ _ (by rfl) w.heap.size g k h _ (by rfl) (by rfl) (hown.drewN _) HLK.out.symm hkh ?_; intro w1 hown1 hg)))
      go_wp2
      go_roundw
      case rel => exact ⟨k + 1, g, by omega, by go_num, rfl, by rw [← H2.out]; simp only [el_fv, el_one] at hown1; exact hown1, (below_drewN hb _).grown hg hb.size (fun j hj => by injection hj with hj; subst hj; exact hgl)⟩
      case measure => simp [intOf]; omega
    · obtain rfl : k = h := by omega
      go_wp2
      go_ret
      rw [List.take_of_length_le (by rw [List.length_map, HLL.out]; exact Nat.le_refl _)] at hown
      exact ⟨_, rfl, hown, hb⟩
theorem fix_no (b : Nat) (A : Option Addr) (n cap : Nat) (hn : n < 9223372036854775808) (h : ∀ v, ¬ Cube n (v + 1)) (r : Int) (w : World) :
    Calls Tryd.prog 45 #[.pointer (some ⟨b, 0, none⟩), .slice A n cap, vi r] w fun e w' => e = NoFold 2 ∧ w = w' := by
  by_cases hi : IsCube n
  · obtain ⟨v, hv⟩ := hi
    rcases v with _ | v
    · have hvv := Lib.hid (variables_yes A n cap 0 hv w)
      clear hv h
      go_enter Tryd.func45, Tryd.ntmps45
      go_wp2_with fail
      refine (hvv.out).mono ?_
      rintro e w' ⟨rfl, rfl⟩
      go_wp2
      go_ret2
      exact ⟨rfl, rfl⟩
    · exact absurd hv (h v)
  · have hvv := Lib.hid (variables_no A n cap hn hi w)
    clear hi h
    go_enter Tryd.func45, Tryd.ntmps45
    go_wp2_with fail
    refine (hvv.out).mono ?_
    rintro e w' ⟨rfl, rfl⟩
    go_wp2
    go_ret2
    exact ⟨rfl, rfl⟩

theorem fix_any (p S b : Nat) [NeZero p] (n v h : Nat) (hv : Cube n (v + 1)) (hn : n = 2 * h) (A : Option Addr) (cap : Nat) (xs : List Int) (hml : xs.length = n) (hxs : ∀ x ∈ xs, I64 x) (r : Int) (hr : I64 r) (w : World) (F : Fld w S b p) (hs : SL w A xs) :
    Calls Tryd.prog 45 #[.pointer (some ⟨b, 0, none⟩), .slice A n cap, vi r] w fun e w' => MadeE (fvs (fixL h (els p xs) (el p r))) w e w' := by
  have hvv := Lib.hid (variables_yes A n cap (v + 1) hv w)
  have hle := hv.le
  have hf := Lib.hid (fixed_any p S b n h (.inl hn) (by omega) A cap xs hml hxs r hr w F hs)
  clear hml hn hv F hs
  go_enter Tryd.func45, Tryd.ntmps45
  go_wp2_with fail
  refine (hvv.out).mono ?_
  rintro e w' ⟨rfl, rfl⟩
  go_wp2_with fail
  refine (hf.out).mono ?_
  rintro e w1 ⟨v, rfl, hown, hb⟩
  go_wp2
  go_ret2
  exact ⟨v, rfl, hown, hb⟩
end Go.Proofs.YtkhkoeibigpdnaaDoor

/- Walk: sums.Extend. -/
set_option linter.unusedVariables false
namespace Go.Proofs.YtkhkoeibigpdnaaDoor
open Go.RowKit Zp

abbrev NoInt (k : Int) : Ending := .returned (.tuple #[vi 0, .iface 107 (.int .i64 k)])
theorem extend_no (b : Nat) (A B : Option Addr) (n cap m cb : Nat) (hn : n < 9223372036854775808) (hm : m < 9223372036854775808) (h : ¬ Cube n m) (w : World) :
    Calls Tryd.prog 42 #[.pointer (some ⟨b, 0, none⟩), .slice A n cap, .slice B m cb] w fun e w' => e = NoInt 2 ∧ w = w' := by
  by_cases hi : IsCube n
  · obtain ⟨v, hv⟩ := hi
    have hvv := Lib.hid (variables_yes A n cap v hv w)
    have hne : ¬ m = v := fun e => h (e ▸ hv)
    have t1 : ((m : Int) != (v : Int)) = true := by rw [bne_iff_ne]; omega
    clear hv h hne
    go_enter Tryd.func42, Tryd.ntmps42
    go_wp2_with fail
    refine (hvv.out).mono ?_
    rintro e w' ⟨rfl, rfl⟩
    go_wp2
    go_ret2
    exact ⟨rfl, rfl⟩
  · have hvv := Lib.hid (variables_no A n cap hn hi w)
    clear hi h
    go_enter Tryd.func42, Tryd.ntmps42
    go_wp2_with fail
    refine (hvv.out).mono ?_
    rintro e w' ⟨rfl, rfl⟩
    go_wp2
    go_ret2
    exact ⟨rfl, rfl⟩

/-- the table that is left when k are let be elements -/
def ExtRel (p : Nat) [NeZero p] (v : Nat) (T : List (Fin p)) (rs : List (Fin p)) (w : World) (t i : Value) (wr : World) : Prop :=
  ∃ (k : Nat) (A : Option Addr) (n c : Nat) (ys : List Int), k ≤ v ∧ i = vi k ∧ t = .slice A n c ∧ Cube n (v - k) ∧ ys.length = n ∧ (∀ y ∈ ys, I64 y) ∧ SL wr A ys ∧ Below w.heap.size w wr ∧ extL (els p ys) (rs.drop k) = T

/-- an int, no error -/
def GivesI (x : Int) (w : World) (e : Ending) (w' : World) : Prop := e = .returned (.tuple #[vi x, .nilIface]) ∧ Below w.heap.size w w'

set_option maxRecDepth 100000 in
set_option maxHeartbeats 1000000 in
theorem extend_any (p S b : Nat) [NeZero p] (n v : Nat) (hv : Cube n v) (A : Option Addr) (cap : Nat) (xs : List Int) (hml : xs.length = n) (hxs : ∀ x ∈ xs, I64 x) (B : Option Addr) (cb : Nat) (rs : List Int) (hrl : rs.length = v) (hrs : ∀ x ∈ rs, I64 x) (w : World) (F : Fld w S b p) (hs : SL w A xs) (hsr : SL w B rs) :
    Calls Tryd.prog 42 #[.pointer (some ⟨b, 0, none⟩), .slice A n cap, .slice B v cb] w fun e w' => GivesI (fv (co (extL (els p xs) (els p rs)) 0)) w e w' := by
  have hp1 := F.two
  have hp2 := F.max
  have hbS := F.le
  have hcb := F.c0
  have hbl : b < w.heap.size := block_lt_of_cell hcb
  have hvv := Lib.hid (variables_yes A n cap v hv w)
  have hv12 := hv.1
  have hn0 := hv.le
  have HRL := Lib.hid hrl
  obtain ⟨T, hT⟩ : ∃ T, T = extL (els p xs) (els p rs) := ⟨_, rfl⟩
  rw [← hT]
  have hrel0 : ExtRel p v T (els p rs) w (.slice A n cap) (vi (0 : Nat)) w := ⟨0, A, n, cap, xs, Nat.zero_le _, rfl, rfl, hv, hml, hxs, hs, Below.refl _ _, hT.symm⟩
  have t1 : ((v : Int) != (v : Int)) = false := by simp
  clear hv hml hrl hT
  go_enter Tryd.func42, Tryd.ntmps42
  go_wp2_with fail
  refine (hvv.out).mono ?_
  rintro e w' ⟨rfl, rfl⟩
  go_wp2
  go_loopw [1, 24] (fun t i wr => ExtRel p v T (els p rs) w t i wr) (fun _ i _ => v - (intOf i).toNat)
  case atStart => exact hrel0
  case round =>
    obtain ⟨k, A', n', c', ys, hk, rfl, rfl, hcu, hyl, hys, hsy, hb, hT⟩ := hrel
    have hcR : wr.cell? ⟨b, 0, none⟩ = some (vi p) := (hb.cell (p := ⟨b, 0, none⟩) hbl).trans hcb
    have FR := F.below hb hbS
    by_cases hkv : k < v
    · have hkr : k < rs.length := by rw [HRL.out]; exact hkv
      obtain ⟨ad, rfl, _, hc1⟩ := (hsr.below hb).at_ hkr
      have ir := hrs _ (List.getElem_mem hkr)
      have hd : (els p rs).drop k = el p rs[k] :: (els p rs).drop (k + 1) := by
        rw [List.drop_eq_getElem_cons (by simpa using hkr)]; simp
      obtain ⟨r, hr⟩ : ∃ r, r = rs[k] := ⟨_, rfl⟩
      rw [← hr] at hc1 ir hd
      have hcu' : Cube n' (v - (k + 1) + 1) := by rw [show v - (k + 1) + 1 = v - k by omega]; exact hcu
      obtain ⟨hch, hnh⟩ := hcu'.half rfl
      have hnle := hcu.le
      obtain ⟨h, hh⟩ : ∃ h, h = n' / 2 := ⟨_, rfl⟩
      rw [← hh] at hch hnh
      rw [hd, extL, List.length_map, hyl, ← hh] at hT
      have hfx := Lib.hid (fixed_any p S b n' h (.inl hnh) (by omega) A' c' ys hyl hys r ir wr FR hsy)
      have HT := Lib.hid hT
      clear hT hd hr hh hnh hcu hcu' hyl
      go_wp2_with fail
      refine (hfx.out).mono ?_
      rintro e w1 ⟨v1, rfl, hown, hb1⟩
      obtain ⟨A1, n1, c1, rfl, hl1, hnc, _, hs1⟩ := hown.shapeN
      rw [List.length_map, fixL_length] at hl1
      subst hl1
      clear hown
      go_wp2
      go_roundw
      case rel => exact ⟨k + 1, A1, _, c1, _, by omega, by go_num, rfl, hch, by rw [List.length_map, fixL_length], i64_fvs _ hp2, hs1, hb.trans (hb1.mono hb.size), by rw [els_fvs]; exact HT.out⟩
      case measure => simp [intOf]; omega
    · obtain rfl : k = v := by omega
      have hnp := hcu.pos
      have hk0 : 0 < ys.length := by rw [hyl]; exact hnp
      obtain ⟨ad, rfl, _, hc1⟩ := hsy.at_ hk0
      have iy := hys _ (List.getElem_mem hk0)
      have hx : el p ys[0] = co T 0 := by
        rw [← hT, List.drop_of_length_le (by rw [List.length_map, HRL.out]; exact Nat.le_refl _), extL, co_of_lt (by simpa using hk0)]; simp
      obtain ⟨y, hy⟩ : ∃ y, y = ys[0] := ⟨_, rfl⟩
      rw [← hy] at hc1 iy hx
      have HX := Lib.hid hx
      have hc3 : wr.cell? ad = some (vi y) := by
        have e : ad.add 0 = ad := by cases ad; simp [Addr.add]
        rw [← e]; exact hc1
      clear hx hy hyl hT
      go_wp2_with fail
      refine (of_el p hp2 b y iy wr hcR).mono ?_
      rintro e w' ⟨rfl, rfl⟩
      go_wp2
      go_ret2
      exact ⟨by rw [HX.out]; rfl, hb⟩
end Go.Proofs.YtkhkoeibigpdnaaDoor

/- Tables in memory; walks: sums.total. -/
set_option linter.unusedVariables false
namespace Go.Proofs.YtkhkoeibigpdnaaDoor
open Go.RowKit Zp

/-- a product of k -/
def prodT {p : Nat} [NeZero p] (k : Nat) (f : Nat → Fin p) : Fin p := match k with
  | 0 => 1
  | k + 1 => prodT k f * f k
theorem prodT_succ {p : Nat} [NeZero p] (k : Nat) (f : Nat → Fin p) : prodT (k + 1) f = prodT k f * f k := rfl
theorem prodT_congr {p : Nat} [NeZero p] {k : Nat} {f g : Nat → Fin p} (h : ∀ i, i < k → f i = g i) : prodT k f = prodT k g := by
  induction k with
  | zero => rfl
  | succ k ih => rw [prodT_succ, prodT_succ, ih (fun i hi => h i (by omega)), h k (by omega)]
/-- table number j of several -/
def tabOf (p : Nat) [NeZero p] (ts : List (List Int)) (j : Nat) : List (Fin p) := els p (ts.getD j [])
/-- the sum of the products of the tables -/
def totP {p : Nat} [NeZero p] (d n : Nat) (T : Nat → List (Fin p)) : Fin p := sumT n fun i => prodT d fun j => co (T j) i

/-- several tables in memory -/
def TB (w : World) (A0 : Option Addr) (ts : List (List Int)) : Prop :=
  ∀ k (hk : k < ts.length), ∃ ad A n c, A0 = some ad ∧ (ad.add k).block < w.heap.size ∧ w.cell? (ad.add k) = some (.slice A n c) ∧ ts[k].length = n ∧ n < 9223372036854775808 ∧ SL w A ts[k] ∧ ∀ x ∈ ts[k], I64 x
theorem TB.below {w w' : World} {A0 : Option Addr} {ts : List (List Int)} (h : TB w A0 ts) (hb : Below w.heap.size w w') : TB w' A0 ts := fun k hk => by
  obtain ⟨ad, A, n, c, h1, h2, h3, h4, h5, h6, h7⟩ := h k hk
  exact ⟨ad, A, n, c, h1, Nat.lt_of_lt_of_le h2 hb.size, (hb.cell h2).trans h3, h4, h5, h6.below hb, h7⟩
theorem TB.drewN {w : World} {A0 : Option Addr} {ts : List (List Int)} (h : TB w A0 ts) (m : Nat) : TB (w.drewN m) A0 ts := h

set_option maxRecDepth 100000 in
set_option maxHeartbeats 1000000 in
theorem total_any (p b : Nat) [NeZero p] (hp1 : 2 ≤ p) (hp2 : p ≤ 2147483647) (A : Option Addr) (d cap : Nat) (ts : List (List Int)) (hd : ts.length = d) (hd1 : 1 ≤ d) (hd2 : d ≤ 4) (n : Nat) (hn : ∀ t ∈ ts, t.length = n) (w : World) (hcb : w.cell? ⟨b, 0, none⟩ = some (vi p)) (hs : TB w A ts) :
    Calls Tryd.prog 90 #[.pointer (some ⟨b, 0, none⟩), .slice A d cap] w fun e w' => e = .returned (vi (fv (totP d n (tabOf p ts)))) ∧ ∃ k, w' = w.drewN k := by
  have HD := Lib.hid hd
  obtain ⟨a0, A0, n0, c0, rfl, z1, hc0, hl0, hb0, z2, z3⟩ := hs 0 (by omega)
  have e0 : n0 = n := by rw [← hl0]; exact hn _ (List.getElem_mem _)
  subst e0
  have hc00 : w.cell? a0 = some (.slice A0 n0 c0) := by
    have e : a0.add 0 = a0 := by cases a0; simp [Addr.add]
    rw [← e]; exact hc0
  have e0 : (0 : Int) ≤ (d : Int) := by omega
  have e1 : (0 : Int) < (d : Int) := by omega
  clear z1 z2 z3 hl0 hc0 hd
  go_enter Tryd.func90, Tryd.ntmps90
  go_wp2
  go_loopw [5, 14] (fun v i wr => ∃ k m : Nat, k ≤ n0 ∧ i = vi k ∧ v = vi (fv (sumT k fun i => prodT d fun j => co (tabOf p ts j) i)) ∧ wr = w.drewN m) (fun _ i _ => n0 - (intOf i).toNat)
  case atStart => exact ⟨0, 0, Nat.zero_le _, rfl, by rw [sumT, fv_zero], rfl⟩
  case round =>
    obtain ⟨k, m, hk, rfl, rfl, rfl⟩ := hrel
    by_cases hkn : k < n0
    · obtain ⟨s, hsx⟩ : ∃ s, s = (sumT k fun i => prodT d fun j => co (tabOf p ts j) i) := ⟨_, rfl⟩
      have HSX := Lib.hid hsx
      rw [← hsx]
      clear hsx
      go_wp2
      go_loopw [7, 19] (fun v i wr => ∃ (j m : Nat) (x : Int), j ≤ d ∧ i = vi j ∧ v = vi x ∧ I64 x ∧ el p x = (prodT j fun j => co (tabOf p ts j) k) ∧ wr = w.drewN m) (fun _ i _ => d - (intOf i).toNat)
      case atStart => exact ⟨0, m, 1, Nat.zero_le _, rfl, rfl, by constructor <;> decide, by rw [prodT, el_one], rfl⟩
      case round =>
        obtain ⟨j, m, x, hj, rfl, rfl, hxI, hx, rfl⟩ := hrel
        have HX := Lib.hid hx
        clear hx
        by_cases hjd : j < d
        · have hjt : j < ts.length := by rw [HD.out]; exact hjd
          obtain ⟨ad, A1, n1, c1, he, _, hc1, hl1, _, hs1, hi1⟩ := hs j hjt
          injection he with he
          subst he
          have e1 : n1 = n0 := by rw [← hl1]; exact hn _ (List.getElem_mem _)
          subst e1
          have hkx : k < ts[j].length := by rw [hl1]; exact hkn
          obtain ⟨a1, rfl, _, hc2⟩ := hs1.at_ hkx
          have iy := hi1 _ (List.getElem_mem hkx)
          have hy : co (tabOf p ts j) k = el p ts[j][k] := by
            rw [tabOf, co_els, List.getD_eq_getElem?_getD, List.getD_eq_getElem?_getD, List.getElem?_eq_getElem hjt, Option.getD_some, List.getElem?_eq_getElem hkx, Option.getD_some]
          obtain ⟨y, hyy⟩ : ∃ y, y = ts[j][k] := ⟨_, rfl⟩
          rw [← hyy] at hc2 iy hy
          have HY := Lib.hid hy
          have hcR : (w.drewN m).cell? ⟨b, 0, none⟩ = some (vi p) := hcb
          have hc1' : (w.drewN m).cell? (a0.add j) = some (.slice (some a1) n1 c1) := hc1
          have hc2' : (w.drewN m).cell? (a1.add k) = some (vi y) := hc2
          clear hy hyy hl1
          go_wp2_with fail
          refine (mul_any p hp2 b x y hxI iy _ hcR).mono ?_
          rintro e w' ⟨rfl, m2, rfl⟩
          go_wp2
          go_roundw
          case rel => exact ⟨j + 1, m + m2, _, by omega, by go_num, rfl, i64_fv _ hp2, by rw [el_fv, HX.out, prodT_succ, HY.out], rfl⟩
          case measure => simp [intOf]; omega
        · obtain rfl : j = d := by omega
          have hcR : (w.drewN m).cell? ⟨b, 0, none⟩ = some (vi p) := hcb
          go_wp2_with fail
          refine (add_any p hp2 b (fv s) x (i64_fv _ hp2) hxI _ hcR).mono ?_
          rintro e w' ⟨rfl, m2, rfl⟩
          go_wp2
          go_roundw
          case rel => exact ⟨k + 1, m + m2, by omega, by go_num, by rw [el_fv, HX.out, HSX.out, sumT_succ], rfl⟩
          case measure => simp [intOf]; omega
    · obtain rfl : k = n0 := by omega
      go_wp2
      go_ret
      exact ⟨rfl, _, rfl⟩
end Go.Proofs.YtkhkoeibigpdnaaDoor

/- Plain facts: the round's polynomial of a sum; what is not true is caught. No program is in sight but for the words of the tables. -/
set_option linter.unusedVariables false
namespace Go.Proofs.YtkhkoeibigpdnaaDoor
open Zp
section ct
variable {p : Nat} [NeZero p]

theorem fixE_eq (a b r : Fin p) : fixE a b r = a + (b - a) * r := by unfold fixE; grind

/-- a product of straight lines is a polynomial -/
theorem prod_poly (d : Nat) (f g : Nat → Fin p) : ∃ Q : List (Fin p), Q.length ≤ d + 1 ∧ ∀ r, ev Q r = prodT d fun j => fixE (f j) (g j) r := by
  induction d with
  | zero => exact ⟨[1], by simp, fun r => by simp only [ev, prodT]; grind⟩
  | succ d ih =>
    obtain ⟨Q, h1, h2⟩ := ih
    refine ⟨trimL (mulL Q [f d, g d - f d]), ?_, fun r => ?_⟩
    · have h3 : (trimL (mulL Q [f d, g d - f d])).length ≤ Q.length + 1 := trimL_length_of fun i hi => co_mulL_ge _ Q i (by simp; omega)
      omega
    · rw [ev_trim, ev_mulL, h2, prodT_succ, fixE_eq]
      simp only [ev]
      grind
theorem sum_poly (d h : Nat) (F G : Nat → Nat → Fin p) : ∃ Q : List (Fin p), Q.length ≤ d + 1 ∧ ∀ r, ev Q r = sumT h fun i => prodT d fun j => fixE (F i j) (G i j) r := by
  induction h with
  | zero => exact ⟨[], by simp, fun r => rfl⟩
  | succ h ih =>
    obtain ⟨Q, h1, h2⟩ := ih
    obtain ⟨R, h3, h4⟩ := prod_poly d (F h) (G h)
    refine ⟨addL Q R, ?_, fun r => ?_⟩
    · rw [addL, tab_length]; omega
    · rw [ev_addL, h2, h4, sumT_succ]
theorem sumT_split (m k : Nat) (f : Nat → Fin p) : sumT (m + k) f = sumT m f + sumT k (fun i => f (i + m)) := by
  induction k with
  | zero => simp only [sumT, Nat.add_zero]; grind
  | succ k ih => rw [← Nat.add_assoc, sumT_succ, ih, sumT_succ, Nat.add_comm k m]; grind

/-- the tables with the first variable let be r -/
def fixT (h : Nat) (T : Nat → List (Fin p)) (r : Fin p) (j : Nat) : List (Fin p) := fixL h (T j) r
theorem tot_fix (d h : Nat) (T : Nat → List (Fin p)) (r : Fin p) : totP d h (fixT h T r) = sumT h fun i => prodT d fun j => fixE (co (T j) i) (co (T j) (i + h)) r :=
  sumT_congr fun i hi => prodT_congr fun j hj => by rw [fixT, co_fixL _ _ hi]
theorem tot_round (d h : Nat) (T : Nat → List (Fin p)) : totP d (2 * h) T = totP d h (fixT h T 0) + totP d h (fixT h T 1) := by
  rw [tot_fix, tot_fix, totP, Nat.two_mul, sumT_split]
  congr 1
  · exact sumT_congr fun i _ => prodT_congr fun j _ => by rw [fixE_eq]; grind
  · exact sumT_congr fun i _ => prodT_congr fun j _ => by rw [fixE_eq]; grind

/-- if all of d + 1 unlike elements are met, the sum is true -/
theorem catch_law (hp : IsPrime p) {d h : Nat} (T : Nat → List (Fin p)) {g : List (Fin p)} (hg : g.length ≤ d + 1) {rs : List (Fin p)} (hn : rs.Nodup) (hl : rs.length = d + 1) (hr : ∀ r ∈ rs, totP d h (fixT h T r) = ev g r) :
    totP d (2 * h) T = ev g 0 + ev g 1 := by
  obtain ⟨Q, h1, h2⟩ := sum_poly d h (fun i j => co (T j) i) (fun i j => co (T j) (i + h))
  have hQ : ∀ r, ev Q r = totP d h (fixT h T r) := fun r => by rw [h2, tot_fix]
  have hz : trimL (subL Q g) = [] := zero_of_roots hp hn (fun r hrm => by rw [ev_subL, hQ, hr r hrm]; grind) (by rw [subL, tab_length]; omega)
  have he : ∀ r, ev Q r = ev g r := fun r => by
    have h3 := ev_trim (subL Q g) r
    rw [hz, ev_subL] at h3
    simp only [ev] at h3
    grind
  rw [tot_round, ← hQ, ← hQ, he, he]
end ct
end Go.Proofs.YtkhkoeibigpdnaaDoor

/- Own slices of slices of ints: append of one; how they read; slices of slices of ints that came in. -/
set_option linter.unusedVariables false
namespace Go.Proofs.YtkhkoeibigpdnaaDoor
open Go.RowKit Zp

theorem info_ints : (Tryd.prog.info? 22).map (fun i => (i.zero, i.size, i.bytes)) = some (some (.slice none 0 0), 1, 24) := by kernel_rfl

/-- the call's own slice of slices of ints -/
abbrev OwnR (w : World) (base : Nat) (v : Value) (us : List Value) : Prop := w.ownsRow base 22 1 v us.length us
/-- each is a slice of ints of the call's own -/
def RowsOwn (w : World) (base : Nat) (us : List Value) (ls : List (List Int)) : Prop := us.length = ls.length ∧ ∀ k (h : k < us.length) (h' : k < ls.length), Own w base us[k] ls[k]

theorem own_ne {w : World} {base base' : Nat} {v u : Value} {xs : List Int} {us : List Value} (h : Own w base v xs) (k : OwnR w base' u us) : v.ownBlock = none ∨ v.ownBlock ≠ u.ownBlock := by
  rcases h.2 with ⟨rfl, _⟩ | ⟨g, cap, cur, rfl, _, hg, _⟩
  · exact .inl rfl
  · refine .inr ?_
    rcases k.2 with ⟨rfl, _⟩ | ⟨g', cap', cur', rfl, _, hg', _⟩
    · intro e; cases e
    · intro e
      injection e with e
      subst e
      rw [hg] at hg'
      injection hg' with hg'
      injection hg' with _ ht
      exact absurd ht (by decide)

/-- what an append of an own row leaves -/
structure GrewR (w w' : World) (base : Nat) (v v' : Value) (us : List Value) : Prop where
  own : OwnR w' base v' us
  grown : w.grownBy w' v.ownBlock

theorem GrewR.below {w0 w w' : World} {base : Nat} {v v' : Value} {us vs : List Value} (h : GrewR w w' base v v' us) {B : Nat} (hb : Below B w0 w) (ho : OwnR w base v vs) (hB : B ≤ base) (hs : B ≤ w.heap.size) : Below B w0 w' :=
  hb.grown h.grown hs (fun k hk => Nat.le_trans hB (World.ownsRow.lt ho k hk).1)
theorem GrewR.rows {w w' : World} {base base2 : Nat} {v v' : Value} {us vs ws : List Value} {ls : List (List Int)} (h : GrewR w w' base v v' us) (ho : OwnR w base v vs) (hr : RowsOwn w base2 ws ls) : RowsOwn w' base2 ws ls :=
  ⟨hr.1, fun k h1 h2 => (hr.2 k h1 h2).grown h.grown (own_ne (hr.2 k h1 h2) ho)⟩

theorem run_appR (w : World) (base : Nat) (v : Value) (us : List Value) (A : Option Addr) (n c : Nat) (hown : OwnR w base v us) (hlen : us.length < 5864062014805) (hbase : base ≤ w.heap.size) (ty : TypeId) :
    ∃ v' w', (Builtin.append_ #[72, 72] ty #[v, .slice (some ⟨w.heap.size, 0, none⟩) 1 1]).run Tryd.prog (w.alloc (.cells #[.slice A n c] 22)) = .ok v' w' ∧ GrewR w w' base v v' (us ++ [.slice A n c]) := by
  obtain ⟨i0, hi, hz0, hz1, hz2⟩ := info_parts info_ints
  obtain ⟨v', w', hrun, h2, h3, _, h5⟩ := run_append_own_at (P := Tryd.prog) (w.alloc (.cells #[.slice A n c] 22)) base 72 ty 22 i0 _ 1 24 Tryd.underlying72 hi hz0 hz1 hz2 rfl (by omega)
    v us.length us (hown.alloc _) ⟨w.heap.size, 0, none⟩ 1 1 [.slice A n c] rfl (by
      intro j u hj
      match j, hj with
      | 0, hj => simp at hj; subst hj; simp [Addr.add]) (by simp [Value.oneCell']) (by simp only [maxLen]; omega) (by omega) (by simp; omega)
  refine ⟨v', w', hrun, ?_, grownBy_trans (World.grownBy_alloc w _ _) h3⟩
  have e : (us ++ [Value.slice A n c]).length = us.length + 1 := by simp
  rw [OwnR, e]
  exact h2

/-- append of one row -/
theorem wpList_appR {ops : Array Oper} {rest : List Oper} {o : Oper} {a : Act} {Q : Exit → Act → World → Prop} (w : World) (A : Option Addr) (n c : Nat) (hgd : o.guard = none) (s x : Operand)
    (ho : o.op = .call { callee := .builtin .append, args := #[s, x], argTypes := #[72, 72] })
    (base : Nat) (v : Value) (us : List Value) (hs : a.eval s = v) (hx : a.eval x = .slice (some ⟨w.heap.size, 0, none⟩) 1 1) (hown : OwnR w base v us) (hlen : us.length < 5864062014805) (hbase : base ≤ w.heap.size)
    (h : ∀ v' w', GrewR w w' base v v' (us ++ [.slice A n c]) → wpList Tryd.prog ops Q rest (a.put o.dst v') w') : wpList Tryd.prog ops Q (o :: rest) a (w.alloc (.cells #[.slice A n c] 22)) :=
  wpList_plain hgd fun _ hK => by
    obtain ⟨v', w', hrun, hg⟩ := run_appR w base v us A n c hown hlen hbase o.type
    unfold Oper.wp execOp
    simp only [ho, resolve, invoke, builtin, Sem.run_bind, Sem.run_pure, Result.andThen_ok, List.map_toArray, List.map_cons, List.map_nil, hs, hx, hrun]
    exact hK _ _ (h v' w' hg)

theorem RowsOwn.nil (w : World) (base : Nat) : RowsOwn w base [] [] := ⟨rfl, fun k h => absurd h (by simp)⟩
theorem RowsOwn.snoc {w : World} {base : Nat} {us : List Value} {ls : List (List Int)} {u : Value} {l : List Int} (h : RowsOwn w base us ls) (hu : Own w base u l) : RowsOwn w base (us ++ [u]) (ls ++ [l]) := by
  have hl := h.1
  refine ⟨by simp [hl], fun k h1 h2 => ?_⟩
  by_cases hk : k < us.length
  · rw [List.getElem_append_left hk, List.getElem_append_left (by omega)]
    exact h.2 k hk (by omega)
  · have e : k = us.length := by simp at h1; omega
    subst e
    rw [List.getElem_append_right (Nat.le_refl _), List.getElem_append_right (by omega)]
    simpa [hl] using hu
theorem RowsOwn.below {w w' : World} {base : Nat} {us : List Value} {ls : List (List Int)} (h : RowsOwn w base us ls) (hb : Below w.heap.size w w') : RowsOwn w' base us ls := ⟨h.1, fun k h1 h2 => (h.2 k h1 h2).below hb⟩
theorem RowsOwn.more {w : World} {base base' : Nat} {us : List Value} {ls : List (List Int)} (h : RowsOwn w base us ls) (hb : base' ≤ base) : RowsOwn w base' us ls := ⟨h.1, fun k h1 h2 => (h.2 k h1 h2).more hb⟩

/-- own rows read as tables -/
theorem tb_own {w : World} {base base2 : Nat} {A : Option Addr} {n c : Nat} {us : List Value} {ls : List (List Int)} (h : OwnR w base (.slice A n c) us) (hr : RowsOwn w base2 us ls) (hi : ∀ l ∈ ls, ∀ x ∈ l, I64 x) : TB w A ls := fun k hk => by
  have hku : k < us.length := by rw [hr.1]; exact hk
  have hn : us.length = n := by
    rcases h.2 with ⟨e, h0⟩ | ⟨g, cap, cur, e, _⟩
    · injection e with _ e2 _; omega
    · injection e with _ e2 _; exact e2.symm
  subst hn
  have hrd := Reads.of_own h
  obtain ⟨ad, u, e1, e2, e3, e4⟩ := Reads.at_ (k := k) hrd (by omega)
  have e5 : u = us[k] := by
    rw [List.getElem?_eq_getElem hku] at e3
    injection e3 with e3
    exact e3.symm
  obtain ⟨A1, n1, c1, e6, e7, e8, e9, e10⟩ := (hr.2 k hku hk).shapeN
  have hm : maxLen < 9223372036854775808 := by simp [maxLen]
  exact ⟨ad, A1, n1, c1, e1, by rw [block_of_add]; exact e2, by rw [e4, e5, e6], e7, by omega, e10, hi _ (List.getElem_mem hk)⟩
theorem ownR_shape {w : World} {base : Nat} {v : Value} {us : List Value} (h : OwnR w base v us) : ∃ A n c, v = .slice A n c ∧ us.length = n ∧ n ≤ c := by
  rcases h.2 with ⟨rfl, h0⟩ | ⟨g, cap, cur, rfl, _, _, h1, _⟩
  · exact ⟨none, 0, 0, rfl, h0, Nat.le_refl _⟩
  · exact ⟨_, _, _, rfl, rfl, h1⟩

/-- '.slice A n c' came in and reads as rows -/
structure ArgM (w : World) (A : Option Addr) (n c : Nat) (ts : List (List Int)) : Prop where
  len : ts.length = n
  cap : n ≤ c
  max : c ≤ 9223372036854775807
  tb : TB w A ts
theorem ArgM.nil (w : World) : ArgM w none 0 0 [] := ⟨rfl, Nat.le_refl _, by omega, fun k hk => absurd hk (by simp)⟩
theorem ArgM.mk_ {w : World} {a : Addr} {len cap : Nat} {A : Nat → Option Addr} {L C : Nat → Nat} {Z : Nat → List Int} (hl : len ≤ cap) (hm : cap ≤ maxLen)
    (h : ∀ r, r < cap → w.cell? (a.add r) = some (.slice (A r) (L r) (C r)) ∧ L r ≤ C r ∧ C r ≤ maxLen ∧ (Z r).length = C r ∧ (∀ n ∈ Z r, (Lit.int .i64 n).wf = true) ∧ (A r = none → C r = 0) ∧
        ∀ a', A r = some a' → 0 ≤ a'.block ∧ ∀ c, c < C r → w.cell? (a'.add c) = some (.int .i64 ((Z r).getD c 0))) :
    ArgM w (some a) len cap ((List.range len).map fun r => (Z r).take (L r)) := by
  have hmm : maxLen ≤ 9223372036854775807 := by simp [maxLen]
  refine ⟨by simp, hl, by omega, fun k hk => ?_⟩
  have hk' : k < len := by simpa using hk
  obtain ⟨h1, h2, h3, h4, h5, h6, h7⟩ := h k (by omega)
  have e : ((List.range len).map fun r => (Z r).take (L r))[k] = (Z k).take (L k) := by simp
  rw [e]
  have hlen : ((Z k).take (L k)).length = L k := by rw [List.length_take, h4]; omega
  refine ⟨a, A k, L k, C k, rfl, block_lt_of_cell h1, h1, hlen, by omega, ⟨by simp, fun hn => ?_⟩, fun x hx => i64_of_wf (h5 x (List.mem_of_mem_take hx))⟩
  rw [hlen] at hn
  cases hA : A k with
  | none => have := h6 hA; omega
  | some a' =>
    obtain ⟨_, h8⟩ := h7 a' hA
    have hc0 := h8 0 (by omega)
    refine ⟨a', rfl, ?_, fun j u hu => ?_⟩
    · have := block_lt_of_cell hc0
      rwa [block_of_add] at this
    · rw [List.getElem?_map] at hu
      cases hj : ((Z k).take (L k))[j]? with
      | none => rw [hj] at hu; cases hu
      | some x =>
        rw [hj] at hu
        injection hu with hu
        rw [List.getElem?_take] at hj
        split at hj
        · have hjl : j < (Z k).length := (List.getElem?_eq_some_iff.1 hj).1
          rw [h8 j (by omega), ← hu]
          simp [List.getD_eq_getElem?_getD, hj]
        · cases hj
end Go.Proofs.YtkhkoeibigpdnaaDoor

/- Walks: poly.at, each, Add, Sub. -/
set_option linter.unusedVariables false
namespace Go.Proofs.YtkhkoeibigpdnaaDoor
open Go.RowKit Zp

theorem pat_any (A : Option Addr) (m c : Nat) (xs : List Int) (hml : xs.length = m) (hx : m ≤ 9223372036854775807) (i : Nat) (hi : (i : Int) ≤ 9223372036854775807) (w : World) (hs : SL w A xs) :
    Calls Tryd.prog 145 #[.slice A m c, vi i] w fun e w' => e = .returned (vi (xs.getD i 0)) ∧ w = w' := by
  by_cases hk : i < m
  · have hkx : i < xs.length := by rw [hml]; exact hk
    obtain ⟨ad, rfl, _, hc⟩ := hs.at_ hkx
    have hr : xs.getD i 0 = xs[i] := by rw [List.getD_eq_getElem?_getD, List.getElem?_eq_getElem hkx]; rfl
    rw [← hr] at hc
    obtain ⟨x, hx'⟩ : ∃ x, x = xs.getD i 0 := ⟨_, rfl⟩
    rw [← hx'] at hc ⊢
    have HM := Lib.hid hml
    have HX := Lib.hid hx'
    clear hr hml hx'
    go_enter Tryd.func145, Tryd.ntmps145
    go_wp2
    go_ret
    exact ⟨rfl, rfl⟩
  · have hr : xs.getD i 0 = 0 := by rw [List.getD_eq_getElem?_getD, List.getElem?_eq_none (by omega)]; rfl
    have HR := Lib.hid hr
    have HM := Lib.hid hml
    clear hr hml
    go_enter Tryd.func145, Tryd.ntmps145
    go_wp2
    go_ret
    exact ⟨ret_int HR.out.symm, rfl⟩

theorem i64_getD {xs : List Int} (h : ∀ n ∈ xs, I64 n) (k : Nat) : I64 (xs.getD k 0) := by
  rw [List.getD_eq_getElem?_getD]
  cases hx : xs[k]? with
  | none => constructor <;> decide
  | some x => exact h x (List.mem_of_getElem? hx)

/-- a function that has a body is entered -/
theorem callFunc_enters {K : Nat} {fn : Func} (hf : Tryd.prog.funcs[K]? = some fn) (hname : (fn.name == "runtime.NumGoroutine") = false) (hb : fn.body.isSome = true) (args : Array Value) (w : World) :
    (callFunc K args).run Tryd.prog w = .ok (.enter K args) w := by
  have h1 : fn.name ≠ "runtime.NumGoroutine" := by simpa using hname
  obtain ⟨c, hc⟩ := Option.isSome_iff_exists.1 hb
  simp [callFunc, hf, h1, hc]

def EachRel {p : Nat} [NeZero p] (l : List (Fin p)) (n : Nat) (w : World) (v i : Value) (wr : World) : Prop := ∃ k g : Nat, k ≤ n ∧ i = vi k ∧ v = .slice (some ⟨g, 0, none⟩) k n ∧ Own wr w.heap.size v ((fvs l).take k) ∧ Below w.heap.size w wr

set_option maxRecDepth 100000 in
set_option maxHeartbeats 1000000 in
theorem each_any (p : Nat) [NeZero p] (hp2 : p ≤ 2147483647) (K : Nat) (hK : ∀ (args : Array Value) (w : World), (callFunc K args).run Tryd.prog w = .ok (.enter K args) w) (op : Fin p → Fin p → Fin p) (b : Nat)
    (hop : ∀ (W : World) (m n : Int), I64 m → I64 n → W.cell? ⟨b, 0, none⟩ = some (vi p) → Calls Tryd.prog K #[.pointer (some ⟨b, 0, none⟩), vi m, vi n] W fun e w' => e = .returned (vi (fv (op (el p m) (el p n)))) ∧ ∃ k, w' = W.drewN k)
    (A B : Option Addr) (na ca nb cb : Nat) (xs ys : List Int) (hna : xs.length = na) (hnb : ys.length = nb) (hxs : ∀ n ∈ xs, I64 n) (hys : ∀ n ∈ ys, I64 n) (hrx : na * 8 ≤ 281474976710656) (hry : nb * 8 ≤ 281474976710656)
    (w : World) (hc : w.cell? ⟨b, 0, none⟩ = some (vi p)) (hsx : SL w A xs) (hsy : SL w B ys) :
    Calls Tryd.prog 131 #[.pointer (some ⟨b, 0, none⟩), .func (.func K) #[.pointer (some ⟨b, 0, none⟩)] #[], .slice A na ca, .slice B nb cb] w fun e w' => Made (fvs (trimL (tab (max na nb) (fun i => op (co (els p xs) i) (co (els p ys) i))))) w e w' := by
  have hbl : b < w.heap.size := block_lt_of_cell hc
  obtain ⟨n, hn⟩ : ∃ n, n = max na nb := ⟨_, rfl⟩
  rw [← hn]
  have hn8 : n * 8 ≤ 281474976710656 := by omega
  have hmk := make_ints0 n hn8
  obtain ⟨l, hl⟩ : ∃ l, l = tab n (fun i => op (co (els p xs) i) (co (els p ys) i)) := ⟨_, rfl⟩
  rw [← hl]
  have hll : l.length = n := by rw [hl, tab_length]
  have HL := Lib.hid hl
  have HN := Lib.hid hn
  have HLL := Lib.hid hll
  have HNA := Lib.hid hna
  have HNB := Lib.hid hnb
  have HOP := Lib.hid hop
  clear hl hn hll hna hnb hop
  have hcase : (na < nb ∧ n = nb) ∨ (¬ na < nb ∧ n = na) := by have := HN.out; omega
  have hna9 : na ≤ 9223372036854775807 := by omega
  have hnb9 : nb ≤ 9223372036854775807 := by omega
  rcases hcase with ⟨hlt, hnn⟩ | ⟨hlt, hnn⟩
  · obtain rfl : n = nb := hnn
    go_enter Tryd.func131, Tryd.ntmps131
    go_wp2
    go_loopw [9, 22] (fun v i wr => EachRel l n w v i wr) (fun _ i _ => n - (intOf i).toNat)
    case atStart => exact ⟨0, w.heap.size, Nat.zero_le _, rfl, rfl, own_made0 w _ n (Nat.le_refl _) hn8, (Below.refl _ _).alloc (Nat.le_refl _) _⟩
    case round =>
      obtain ⟨k, g, hk, rfl, rfl, hown, hb⟩ := hrel
      have hcr : wr.cell? ⟨b, 0, none⟩ = some (vi p) := (hb.cell (p := ⟨b, 0, none⟩) hbl).trans hc
      by_cases hkn : k < n
      · have hsx' := hsx.below hb
        have hsy' := hsy.below hb
        have h2 := map_take_succ fv l k (by rw [HLL.out]; exact hkn)
        have h3 : l[k]'(by rw [HLL.out]; exact hkn) = op (el p (xs.getD k 0)) (el p (ys.getD k 0)) := by
          rw [← co_of_lt (by rw [HLL.out]; exact hkn), HL.out, co_tab, if_pos hkn, co_els, co_els]
        rw [h3] at h2
        obtain ⟨x, hx⟩ : ∃ x, x = xs.getD k 0 := ⟨_, rfl⟩
        obtain ⟨y, hy⟩ : ∃ y, y = ys.getD k 0 := ⟨_, rfl⟩
        have ix : I64 x := by rw [hx]; exact i64_getD hxs k
        have iy : I64 y := by rw [hy]; exact i64_getD hys k
        have hatx := fun (W : World) hs => pat_any A _ ca xs HNA.out hna9 k (by omega) W hs
        have haty := fun (W : World) hs => pat_any B _ cb ys HNB.out hnb9 k (by omega) W hs
        rw [← hx] at hatx h2
        rw [← hy] at haty h2
        have hopc := fun (W : World) hc => HOP.out W x y ix iy hc
        obtain ⟨Z, hZ⟩ : ∃ Z, Z = op (el p x) (el p y) := ⟨_, rfl⟩
        rw [← hZ] at hopc h2
        have hlk : ((fvs l).take k).length = k := by rw [List.length_take, List.length_map, HLL.out]; omega
        have HLK := Lib.hid hlk
        have H2 := Lib.hid h2
        have HATX := Lib.hid hatx
        have HATY := Lib.hid haty
        have HOPC := Lib.hid hopc
        clear hatx haty hopc hx hy hZ h2 h3 hlk
        go_wp2_with fail
        refine (HATX.out _ hsx').mono ?_
        rintro e w' ⟨rfl, rfl⟩
        go_wp2_with fail
        refine (HATY.out _ hsy').mono ?_
        rintro e w' ⟨rfl, rfl⟩
        go_wp2_with fail
        refine (HOPC.out _ hcr).mono ?_
        rintro e w' ⟨rfl, k5, rfl⟩
        have hown' : Own (wr.drewN k5) w.heap.size (.slice (some ⟨g, 0, none⟩) k n) ((fvs l).take k) := hown
        go_wp2_with (at_builtin; refine wpList_app1_fits (wr.drewN k5) (fv Z) rfl _ _ rfl w.heap.size g k n _ rfl rfl hown' HLK.out.symm hkn ?_; intro w1 hown1 hg)
        go_roundw
        case rel => exact ⟨k + 1, g, by omega, by go_num, rfl, by rw [← H2.out]; exact hown1, (below_drewN hb k5).grown hg hb.size (fun j hj => by injection hj with hj; subst hj; exact (hown.lt g rfl).1)⟩
        case measure => simp [intOf]; omega
      · obtain rfl : k = n := by omega
        have hLn : (fvs l).length = k := by rw [List.length_map, HLL.out]
        rw [List.take_of_length_le (by rw [hLn]; exact Nat.le_refl _)] at hown
        have hsl : SL wr (some ⟨g, 0, none⟩) (fvs l) := by
          obtain ⟨A1, c1, h1, h2⟩ := hown.len
          injection h1 with h1 _ _
          rw [h1]; exact h2
        have ht := trim_any p hp2 b (some ⟨g, 0, none⟩) k (fvs l) (i64_fvs l hp2) (by rw [hLn]; exact hn8) (by rw [hLn]; exact Nat.le_refl _) wr hcr hsl
        rw [hLn, els_fvs] at ht
        have HT := Lib.hid ht
        clear ht hLn
        go_wp2_with fail
        refine (HT.out).mono ?_
        rintro e w4 ⟨v4, rfl, hown4, hb4⟩
        go_wp2
        go_ret
        exact ⟨v4, rfl, hown4.more hb.size, hb.trans (hb4.mono hb.size)⟩
  · obtain rfl : n = na := hnn
    go_enter Tryd.func131, Tryd.ntmps131
    go_wp2
    go_loopw [9, 22] (fun v i wr => EachRel l n w v i wr) (fun _ i _ => n - (intOf i).toNat)
    case atStart => exact ⟨0, w.heap.size, Nat.zero_le _, rfl, rfl, own_made0 w _ n (Nat.le_refl _) hn8, (Below.refl _ _).alloc (Nat.le_refl _) _⟩
    case round =>
      obtain ⟨k, g, hk, rfl, rfl, hown, hb⟩ := hrel
      have hcr : wr.cell? ⟨b, 0, none⟩ = some (vi p) := (hb.cell (p := ⟨b, 0, none⟩) hbl).trans hc
      by_cases hkn : k < n
      · have hsx' := hsx.below hb
        have hsy' := hsy.below hb
        have h2 := map_take_succ fv l k (by rw [HLL.out]; exact hkn)
        have h3 : l[k]'(by rw [HLL.out]; exact hkn) = op (el p (xs.getD k 0)) (el p (ys.getD k 0)) := by
          rw [← co_of_lt (by rw [HLL.out]; exact hkn), HL.out, co_tab, if_pos hkn, co_els, co_els]
        rw [h3] at h2
        obtain ⟨x, hx⟩ : ∃ x, x = xs.getD k 0 := ⟨_, rfl⟩
        obtain ⟨y, hy⟩ : ∃ y, y = ys.getD k 0 := ⟨_, rfl⟩
        have ix : I64 x := by rw [hx]; exact i64_getD hxs k
        have iy : I64 y := by rw [hy]; exact i64_getD hys k
        have hatx := fun (W : World) hs => pat_any A _ ca xs HNA.out hna9 k (by omega) W hs
        have haty := fun (W : World) hs => pat_any B _ cb ys HNB.out hnb9 k (by omega) W hs
        rw [← hx] at hatx h2
        rw [← hy] at haty h2
        have hopc := fun (W : World) hc => HOP.out W x y ix iy hc
        obtain ⟨Z, hZ⟩ : ∃ Z, Z = op (el p x) (el p y) := ⟨_, rfl⟩
        rw [← hZ] at hopc h2
        have hlk : ((fvs l).take k).length = k := by rw [List.length_take, List.length_map, HLL.out]; omega
        have HLK := Lib.hid hlk
        have H2 := Lib.hid h2
        have HATX := Lib.hid hatx
        have HATY := Lib.hid haty
        have HOPC := Lib.hid hopc
        clear hatx haty hopc hx hy hZ h2 h3 hlk
        go_wp2_with fail
        refine (HATX.out _ hsx').mono ?_
        rintro e w' ⟨rfl, rfl⟩
        go_wp2_with fail
        refine (HATY.out _ hsy').mono ?_
        rintro e w' ⟨rfl, rfl⟩
        go_wp2_with fail
        refine (HOPC.out _ hcr).mono ?_
        rintro e w' ⟨rfl, k5, rfl⟩
        have hown' : Own (wr.drewN k5) w.heap.size (.slice (some ⟨g, 0, none⟩) k n) ((fvs l).take k) := hown
        go_wp2_with (at_builtin; refine wpList_app1_fits (wr.drewN k5) (fv Z) rfl _ _ rfl w.heap.size g k n _ rfl rfl hown' HLK.out.symm hkn ?_; intro w1 hown1 hg)
        go_roundw
        case rel => exact ⟨k + 1, g, by omega, by go_num, rfl, by rw [← H2.out]; exact hown1, (below_drewN hb k5).grown hg hb.size (fun j hj => by injection hj with hj; subst hj; exact (hown.lt g rfl).1)⟩
        case measure => simp [intOf]; omega
      · obtain rfl : k = n := by omega
        have hLn : (fvs l).length = k := by rw [List.length_map, HLL.out]
        rw [List.take_of_length_le (by rw [hLn]; exact Nat.le_refl _)] at hown
        have hsl : SL wr (some ⟨g, 0, none⟩) (fvs l) := by
          obtain ⟨A1, c1, h1, h2⟩ := hown.len
          injection h1 with h1 _ _
          rw [h1]; exact h2
        have ht := trim_any p hp2 b (some ⟨g, 0, none⟩) k (fvs l) (i64_fvs l hp2) (by rw [hLn]; exact hn8) (by rw [hLn]; exact Nat.le_refl _) wr hcr hsl
        rw [hLn, els_fvs] at ht
        have HT := Lib.hid ht
        clear ht hLn
        go_wp2_with fail
        refine (HT.out).mono ?_
        rintro e w4 ⟨v4, rfl, hown4, hb4⟩
        go_wp2
        go_ret
        exact ⟨v4, rfl, hown4.more hb.size, hb.trans (hb4.mono hb.size)⟩
theorem tab_sub {p : Nat} [NeZero p] (na nb : Nat) (a b : List (Fin p)) (ha : a.length = na) (hb : b.length = nb) : tab (max na nb) (fun i => co a i - co b i) = subL a b := by rw [subL, ha, hb]
theorem psub_any (p : Nat) [NeZero p] (hp2 : p ≤ 2147483647) (b : Nat)
    (A B : Option Addr) (na ca nb cb : Nat) (xs ys : List Int) (hna : xs.length = na) (hnb : ys.length = nb) (hxs : ∀ n ∈ xs, I64 n) (hys : ∀ n ∈ ys, I64 n) (hrx : na * 8 ≤ 281474976710656) (hry : nb * 8 ≤ 281474976710656)
    (w : World) (hc : w.cell? ⟨b, 0, none⟩ = some (vi p)) (hsx : SL w A xs) (hsy : SL w B ys) :
    Calls Tryd.prog 113 #[.pointer (some ⟨b, 0, none⟩), .slice A na ca, .slice B nb cb] w fun e w' => Made (fvs (trimL (subL (els p xs) (els p ys)))) w e w' := by
  have h := each_any p hp2 109 (callFunc_enters Tryd.func109 (by kernel_rfl) (by kernel_rfl)) (fun x y => x - y) b (fun W m n hm hn hc => (sub_any p hp2 b m n hm hn W hc).mono fun e w' ⟨h1, h2⟩ => ⟨h1, 0, h2.symm⟩) A B na ca nb cb xs ys hna hnb hxs hys hrx hry w hc hsx hsy
  rw [tab_sub na nb _ _ (by simpa using hna) (by simpa using hnb)] at h
  have H := Lib.hid h
  clear h hna hnb
  have hmf : ∀ (fn : Fn) (first cap : Array Value) (w : World), (Instr.makeFunc fn first cap).run Tryd.prog w = .ok (.func fn first cap) w := fun _ _ _ _ => rfl
  go_enter Tryd.func113, Tryd.ntmps113
  go_wp2_with fail
  refine (H.out).mono ?_
  rintro e w1 ⟨v, rfl, hown, hb⟩
  go_wp2
  go_ret
  exact ⟨v, rfl, hown, hb⟩
end Go.Proofs.YtkhkoeibigpdnaaDoor

/- Walks: sums.checked. -/
set_option linter.unusedVariables false
namespace Go.Proofs.YtkhkoeibigpdnaaDoor
open Go.RowKit Zp

theorem varsI_I64 (n : Nat) : I64 (varsI n) := by
  by_cases h : IsCube n
  · obtain ⟨v, hv⟩ := h
    rw [varsI_of hv]
    have := hv.1
    constructor <;> omega
  · rw [varsI_no h]; constructor <;> decide
theorem variables_any (A : Option Addr) (n cap : Nat) (hn : n < 9223372036854775808) (w : World) :
    Calls Tryd.prog 84 #[.slice A n cap] w fun e w' => e = .returned (vi (varsI n)) ∧ w = w' := by
  by_cases h : IsCube n
  · obtain ⟨v, hv⟩ := h
    rw [varsI_of hv]
    exact variables_yes A n cap v hv w
  · rw [varsI_no h]
    exact variables_no A n cap hn h w

set_option maxRecDepth 100000 in
theorem chk1_any (A : Option Addr) (n c : Nat) (hn : n < 9223372036854775808) (V : Nat) (v : Int) (hv : I64 v) (w : World) (hcV : w.cell? ⟨V, 0, none⟩ = some (vi v)) :
    Calls Tryd.prog 116 #[.slice A n c, .pointer (some ⟨V, 0, none⟩)] w fun e w' => e = .returned (.bool (varsI n != v)) ∧ ∃ k, w' = w.drewN k := by
  have hvar := Lib.hid (fun W => variables_any A n c hn W)
  obtain ⟨u, hu⟩ : ∃ u, u = varsI n := ⟨_, rfl⟩
  rw [← hu] at hvar ⊢
  clear hu
  go_enter Tryd.func116, Tryd.ntmps116
  go_wp2
  go_quiet ((go_at_call 84; exact quiet_eq (hvar.out _)))
  go_wp2
  go_ret
  exact ⟨rfl, _, rfl⟩

set_option maxRecDepth 100000 in
set_option maxHeartbeats 1000000 in
theorem indexf_any (A : Option Addr) (d c : Nat) (ts : List (List Int)) (hd : ts.length = d) (hd2 : d ≤ 4) (V : Nat) (v : Int) (hv : I64 v) (w : World) (hcV : w.cell? ⟨V, 0, none⟩ = some (vi v)) (hs : TB w A ts) :
    Calls Tryd.prog 117 #[.slice A d c, .func (.func 116) #[] #[.pointer (some ⟨V, 0, none⟩)]] w fun e w' => (∃ r, e = .returned (vi r) ∧ ((0 ≤ r ∧ ¬ ∀ t ∈ ts, varsI t.length = v) ∨ (r < 0 ∧ ∀ t ∈ ts, varsI t.length = v))) ∧ ∃ k, w' = w.drewN k := by
  have HD := Lib.hid hd
  have hK := callFunc_enters Tryd.func116 (by kernel_rfl) (by kernel_rfl)
  clear hd
  go_enter Tryd.func117, Tryd.ntmps117
  go_wp2
  go_loopw [8] (fun i wr => ∃ k m : Nat, k ≤ d ∧ i = vi k ∧ (∀ j (hj : j < ts.length), j < k → varsI ts[j].length = v) ∧ wr = w.drewN m) (fun i _ => d - (intOf i).toNat)
  case atStart => exact ⟨0, 0, Nat.zero_le _, rfl, fun j _ h => absurd h (by omega), rfl⟩
  case round =>
    obtain ⟨k, m, hk, rfl, hall, rfl⟩ := hrel
    have HALL := Lib.hid hall
    clear hall
    by_cases hkd : k < d
    · have hkt : k < ts.length := by rw [HD.out]; exact hkd
      obtain ⟨a0, A1, n1, c1, rfl, z1, hc1, hl1, hb1, z2, z3⟩ := hs k hkt
      have hc1' : (w.drewN m).cell? (a0.add k) = some (.slice A1 n1 c1) := hc1
      have hcall := chk1_any A1 n1 c1 hb1 V v hv (w.drewN m) hcV
      have HL := Lib.hid hl1
      cases hq : (varsI n1 != v)
      · rw [hq] at hcall
        have hq' : varsI n1 = v := by simpa using hq
        have HQ := Lib.hid hq'
        have HC := Lib.hid hcall
        clear hl1 hq hq' hcall z1 z2 z3
        go_wp2_with fail
        refine (HC.out).mono ?_
        rintro e w' ⟨rfl, m2, rfl⟩
        go_wp2
        go_roundw
        case rel =>
          refine ⟨k + 1, m + m2, by omega, by go_num, fun j hj hlt => ?_, rfl⟩
          by_cases e : j = k
          · subst e; rw [HL.out, HQ.out]
          · exact HALL.out j hj (by omega)
        case measure => simp [intOf]; omega
      · rw [hq] at hcall
        have hq' : ¬ varsI n1 = v := by simpa using hq
        have HQ := Lib.hid hq'
        have HC := Lib.hid hcall
        clear hl1 hq hq' hcall z1 z2 z3
        go_wp2_with fail
        refine (HC.out).mono ?_
        rintro e w' ⟨rfl, m2, rfl⟩
        go_wp2
        go_ret
        exact ⟨⟨k, rfl, .inl ⟨by omega, fun h => HQ.out (by rw [← HL.out]; exact h _ (List.getElem_mem hkt))⟩⟩, m + m2, rfl⟩
    · obtain rfl : k = d := by omega
      go_wp2
      go_ret
      refine ⟨⟨-1, rfl, .inr ⟨by omega, fun t ht => ?_⟩⟩, _, rfl⟩
      obtain ⟨j, hj, rfl⟩ := List.getElem_of_mem ht
      exact HALL.out j hj (by rw [← HD.out]; exact hj)
end Go.Proofs.YtkhkoeibigpdnaaDoor

/- Walks: sums.checked, Total. -/
set_option linter.unusedVariables false
namespace Go.Proofs.YtkhkoeibigpdnaaDoor
open Go.RowKit Zp

theorem varsI_eq {n v : Nat} (h : varsI n = (v : Int)) : Cube n v := by
  by_cases hi : IsCube n
  · obtain ⟨u, hu⟩ := hi
    rw [varsI_of hu] at h
    obtain rfl : u = v := by omega
    exact hu
  · rw [varsI_no hi] at h; omega
theorem cell_new1 (w : World) (v : Value) (t : TypeId) : (w.alloc (.cells #[v] t)).cell? ⟨w.heap.size, 0, none⟩ = some v := by
  simp
/-- all tables have v variables -/
def Over (ts : List (List Int)) (v : Nat) : Prop := ∀ t ∈ ts, Cube t.length v

set_option maxRecDepth 100000 in
theorem containsf_any (A : Option Addr) (d c : Nat) (ts : List (List Int)) (hd : ts.length = d) (hd2 : d ≤ 4) (V : Nat) (v : Int) (hv : I64 v) (w : World) (hcV : w.cell? ⟨V, 0, none⟩ = some (vi v)) (hs : TB w A ts) (r : Bool) (hr : r = true ↔ ¬ ∀ t ∈ ts, varsI t.length = v) :
    Calls Tryd.prog 92 #[.slice A d c, .func (.func 116) #[] #[.pointer (some ⟨V, 0, none⟩)]] w fun e w' => e = .returned (.bool r) ∧ ∃ k, w' = w.drewN k := by
  have hix := Lib.hid (indexf_any A d c ts hd hd2 V v hv w hcV hs)
  have HR := Lib.hid hr
  clear hd hr
  go_enter Tryd.func92, Tryd.ntmps92
  go_wp2_with fail
  refine (hix.out).mono ?_
  rintro e w' ⟨⟨q, rfl, hq⟩, m, rfl⟩
  rcases hq with ⟨h0, hq⟩ | ⟨h0, hq⟩
  · have hb := HR.out.2 hq
    clear hq
    go_wp2
    go_ret
    exact ⟨ret_bool (by first | (rw [hb]; done) | (rw [hb]; rfl) | (rw [hb]; simp; omega)), _, rfl⟩
  · have hb : r = false := by
      cases r
      · rfl
      · exact absurd hq (HR.out.1 rfl)
    clear hq
    go_wp2
    go_ret
    exact ⟨ret_bool (by first | (rw [hb]; done) | (rw [hb]; rfl) | (rw [hb]; simp; omega)), _, rfl⟩

theorem checked_d (A : Option Addr) (d c : Nat) (hd : d < 9223372036854775808) (h : d = 0 ∨ 4 < d) (w : World) :
    Calls Tryd.prog 89 #[.slice A d c] w fun e w' => e = NoInt 2 ∧ w = w' := by
  rcases h with h | h
  · subst h
    go_enter Tryd.func89, Tryd.ntmps89
    go_wp2
    go_ret2
    exact ⟨rfl, rfl⟩
  · go_enter Tryd.func89, Tryd.ntmps89
    go_wp2
    go_ret2
    exact ⟨rfl, rfl⟩

set_option maxRecDepth 100000 in
set_option maxHeartbeats 1000000 in
theorem checked_yes (A : Option Addr) (d c : Nat) (ts : List (List Int)) (hd : ts.length = d) (hd1 : 1 ≤ d) (hd2 : d ≤ 4) (v : Nat) (hv : Over ts v) (w : World) (hs : TB w A ts) :
    Calls Tryd.prog 89 #[.slice A d c] w fun e w' => GivesI (v : Int) w e w' := by
  have hv12 : v ≤ 12 := (hv _ (List.getElem_mem (show 0 < ts.length by omega))).1
  have hvI : I64 (v : Int) := by constructor <;> omega
  obtain ⟨a0, A0, n0, c0, rfl, z1, hc0, hl0, hb0, z2, z3⟩ := hs 0 (by omega)
  have hc00 : w.cell? a0 = some (.slice A0 n0 c0) := by
    have e : a0.add 0 = a0 := by cases a0; simp [Addr.add]
    rw [← e]; exact hc0
  have hcu : Cube n0 v := by rw [← hl0]; exact hv _ (List.getElem_mem _)
  have hvar := Lib.hid (fun W => variables_yes A0 n0 c0 v hcu W)
  have hall : ∀ t ∈ ts, varsI t.length = (v : Int) := fun t ht => varsI_of (hv t ht)
  have hcf := Lib.hid (fun V W hcV hsW => containsf_any (some a0) d c ts hd hd2 V (v : Int) hvI W hcV hsW false (Iff.intro (fun h => Bool.noConfusion h) (fun h => absurd hall h)))
  have h1 : ¬ (d : Int) < 1 := by omega
  clear z1 z2 z3 hc0 hl0 hcu hv hall hd
  go_enter Tryd.func89, Tryd.ntmps89
  go_wp2_with fail
  refine (hvar.out _).mono ?_
  rintro e w' ⟨rfl, rfl⟩
  go_wp2_with fail
  have hba : Below w.heap.size w (w.alloc (.cells #[vi v] 3)) := (Below.refl _ _).alloc (Nat.le_refl _) _
  refine (hcf.out _ _ (cell_new1 _ _ _) (hs.below hba)).mono ?_
  rintro e w' ⟨rfl, m, rfl⟩
  have hcV : ((w.alloc (.cells #[vi v] 3)).drewN m).cell? ⟨w.heap.size, 0, none⟩ = some (vi v) := cell_new1 _ _ _
  go_wp2
  go_ret2
  exact ⟨rfl, below_drewN hba m⟩

set_option maxRecDepth 100000 in
set_option maxHeartbeats 1000000 in
theorem checked_no (A : Option Addr) (d c : Nat) (ts : List (List Int)) (hd : ts.length = d) (hd1 : 1 ≤ d) (hd2 : d ≤ 4) (hv : ¬ ∃ v, Over ts v) (w : World) (hs : TB w A ts) :
    Calls Tryd.prog 89 #[.slice A d c] w fun e w' => e = NoInt 2 ∧ Below w.heap.size w w' := by
  obtain ⟨a0, A0, n0, c0, rfl, z1, hc0, hl0, hb0, z2, z3⟩ := hs 0 (by omega)
  have hc00 : w.cell? a0 = some (.slice A0 n0 c0) := by
    have e : a0.add 0 = a0 := by cases a0; simp [Addr.add]
    rw [← e]; exact hc0
  have h1 : ¬ (d : Int) < 1 := by omega
  by_cases hi : IsCube n0
  · obtain ⟨v, hcu⟩ := hi
    have hv12 := hcu.1
    have hvI : I64 (v : Int) := by constructor <;> omega
    have hvar := Lib.hid (fun W => variables_yes A0 n0 c0 v hcu W)
    have hall : ¬ ∀ t ∈ ts, varsI t.length = (v : Int) := fun h => hv ⟨v, fun t ht => varsI_eq (h t ht)⟩
    have hcf := Lib.hid (fun V W hcV hsW => containsf_any (some a0) d c ts hd hd2 V (v : Int) hvI W hcV hsW true (Iff.intro (fun _ => hall) (fun _ => rfl)))
    clear z1 z2 z3 hc0 hl0 hcu hv hall hd
    go_enter Tryd.func89, Tryd.ntmps89
    go_wp2_with fail
    refine (hvar.out _).mono ?_
    rintro e w' ⟨rfl, rfl⟩
    go_wp2_with fail
    have hba : Below w.heap.size w (w.alloc (.cells #[vi v] 3)) := (Below.refl _ _).alloc (Nat.le_refl _) _
    refine (hcf.out _ _ (cell_new1 _ _ _) (hs.below hba)).mono ?_
    rintro e w' ⟨rfl, m, rfl⟩
    go_wp2
    go_ret2
    exact ⟨rfl, below_drewN hba m⟩
  · have hvar := Lib.hid (fun W => variables_no A0 n0 c0 hb0 hi W)
    clear z1 z2 z3 hc0 hl0 hv hi hd
    go_enter Tryd.func89, Tryd.ntmps89
    go_wp2_with fail
    refine (hvar.out _).mono ?_
    rintro e w' ⟨rfl, rfl⟩
    go_wp2
    go_ret2
    exact ⟨rfl, (Below.refl _ w).alloc (Nat.le_refl _) _⟩
theorem Total_d (b : Nat) (A : Option Addr) (d c : Nat) (hd : d < 9223372036854775808) (h : d = 0 ∨ 4 < d) (w : World) :
    Calls Tryd.prog 48 #[.pointer (some ⟨b, 0, none⟩), .slice A d c] w fun e w' => e = NoInt 2 ∧ w = w' := by
  have hck := Lib.hid (checked_d A d c hd h w)
  clear h
  go_enter Tryd.func48, Tryd.ntmps48
  go_wp2_with fail
  refine (hck.out).mono ?_
  rintro e w' ⟨rfl, rfl⟩
  go_wp2
  go_ret2
  exact ⟨rfl, rfl⟩

theorem Total_no (b : Nat) (A : Option Addr) (d c : Nat) (ts : List (List Int)) (hd : ts.length = d) (hd1 : 1 ≤ d) (hd2 : d ≤ 4) (hv : ¬ ∃ v, Over ts v) (w : World) (hs : TB w A ts) :
    Calls Tryd.prog 48 #[.pointer (some ⟨b, 0, none⟩), .slice A d c] w fun e w' => e = NoInt 2 ∧ Below w.heap.size w w' := by
  have hck := Lib.hid (checked_no A d c ts hd hd1 hd2 hv w hs)
  clear hv hd
  go_enter Tryd.func48, Tryd.ntmps48
  go_wp2_with fail
  refine (hck.out).mono ?_
  rintro e w' ⟨rfl, hb⟩
  go_wp2
  go_ret2
  exact ⟨rfl, hb⟩

theorem Total_any (p b : Nat) [NeZero p] (hp1 : 2 ≤ p) (hp2 : p ≤ 2147483647) (A : Option Addr) (d c : Nat) (ts : List (List Int)) (hd : ts.length = d) (hd1 : 1 ≤ d) (hd2 : d ≤ 4) (v : Nat) (hv : Over ts v) (w : World) (hcb : w.cell? ⟨b, 0, none⟩ = some (vi p)) (hs : TB w A ts) :
    Calls Tryd.prog 48 #[.pointer (some ⟨b, 0, none⟩), .slice A d c] w fun e w' => GivesI (fv (totP d (2 ^ v) (tabOf p ts))) w e w' := by
  have hck := Lib.hid (checked_yes A d c ts hd hd1 hd2 v hv w hs)
  have hbl : b < w.heap.size := block_lt_of_cell hcb
  have htt := Lib.hid (fun W hc hsW => total_any p b hp1 hp2 A d c ts hd hd1 hd2 (2 ^ v) (fun t ht => (hv t ht).2) W hc hsW)
  obtain ⟨Z, hZ⟩ : ∃ Z, Z = totP d (2 ^ v) (tabOf p ts) := ⟨_, rfl⟩
  rw [← hZ] at htt ⊢
  clear hv hd hZ
  go_enter Tryd.func48, Tryd.ntmps48
  go_wp2_with fail
  refine (hck.out).mono ?_
  rintro e w1 ⟨rfl, hb⟩
  go_wp2_with fail
  refine (htt.out _ ((hb.cell (p := ⟨b, 0, none⟩) hbl).trans hcb) (hs.below hb)).mono ?_
  rintro e w' ⟨rfl, m, rfl⟩
  go_wp2
  go_ret2
  exact ⟨rfl, below_drewN hb m⟩
end Go.Proofs.YtkhkoeibigpdnaaDoor
