/- A bundle of texts: Li, Pl3, Ss, Ints, Vals, Sm1, Fold, Sm2, Code, Sm3, Sm4, Arg, Rowm, Pw, Ma, Pe, Rb, Hr, LawJ3. -/
import Derived.Test.YtlcmacdeadmloaaDoorB02
import Derived.Test.YtlcmacdeadmloaaDoorB01
import Derived.Deep.QuietTactic
import Derived.BigQuiet
import Derived.Outline
import Derived.WalkLawsBesides
import Derived.WalkSpells
import Derived.Test.YtlcmacdeadmloaaDoorB00
import Derived.Deep.RegionHeld3
import Derived.ChangeSlices
/- sponge.list: what is made of the state that a list is. -/
set_option linter.unusedVariables false
namespace Go.Proofs.YtlcmacdeadmloaaDoor
open Go.RowKit Zp

theorem sl_of_blk {w : World} {g : Nat} {t : TypeId} {R : Nat → Int} (h : Blk w g t (st R)) : SL w (some ⟨g, 0, none⟩) ((List.range 8).map R) := ⟨by simp, fun _ => ⟨_, rfl, h.lt, fun j u hu => by
  have hj : j < 8 := by
    have := (List.getElem?_eq_some_iff.1 hu).1
    simpa using this
  have e : w.cell? (Addr.add ⟨g, 0, none⟩ j) = w.cell? ⟨g, j, none⟩ := by rw [Addr.add_mid, Nat.zero_add]
  rw [e, h.at8 hj]
  simp [hj] at hu
  rw [← hu]⟩⟩
theorem sl8 {w : World} {A : Option Addr} {xs : List Int} (h : SL w A xs) (h8 : xs.length = 8) : ∃ ad, A = some ad ∧ ad.block < w.heap.size ∧ ∀ i, i < 8 → w.cell? (ad.add i) = some (vi (xs.getD i 0)) := by
  obtain ⟨ad, e, hb, hc⟩ := h.2 (by omega)
  refine ⟨ad, e, hb, fun i hi => hc i _ ?_⟩
  have hi' : i < xs.length := by omega
  simp [List.getD, hi']
theorem i64_getD3 {xs : List Int} (h : ∀ x ∈ xs, I64 x) (i : Nat) : I64 (xs.getD i 0) := by
  rcases Nat.lt_or_ge i xs.length with hi | hi
  · simp only [List.getD, List.getElem?_eq_getElem hi, Option.getD_some]
    exact h _ (List.getElem_mem hi)
  · simp only [List.getD, List.getElem?_eq_none hi, Option.getD_none]
    constructor <;> omega
section
variable {p : Nat} [NeZero p]
theorem getD_map8 (R : Nat → Int) {i : Nat} (hi : i < 8) : (((List.range 8).map R).getD i 0) = R i := by simp [List.getD, hi]
theorem all8 {xs : List Int} (h8 : xs.length = 8) {R : Nat → Fin p} (h : ∀ j, j < 8 → R j = el p (xs.getD j 0)) : (List.range 8).map (fun i => fv (R i)) = fvs (els p xs) := by
  apply List.ext_getElem?
  intro i
  by_cases hi : i < 8
  · have hi' : i < xs.length := by omega
    simp [fvs, els, hi, hi', h i hi, List.getD]
  · have hi' : ¬ i < xs.length := by omega
    rw [List.getElem?_eq_none (by simp; omega), List.getElem?_eq_none (by simp [fvs, els]; omega)]
end
theorem i64_map8 {p : Nat} (hm : p ≤ 2147483647) (R : Nat → Fin p) (i : Nat) : I64 (((List.range 8).map fun i => fv (R i)).getD i 0) :=
  i64_getD3 (fun x hx => by obtain ⟨i, _, rfl⟩ := List.mem_map.1 hx; exact i64_fv _ hm) i
set_option maxRecDepth 100000 in
set_option maxHeartbeats 2000000 in
theorem list_not (A : Option Addr) (m c : Nat) (f : Value) (hm : m ≠ 8) (w : World) (h63 : m ≤ 9223372036854775807) :
    Calls Tryd.prog 47 #[.slice A m c, f] w fun e w' => e = .returned (.slice none 0 0) ∧ w = w' := by
  have t1 : ((m : Int) != 8) = true := by rw [bne_iff_ne]; omega
  clear hm
  go_enter Tryd.func47, Tryd.ntmps47
  go_wp2
  go_ret
  exact ⟨rfl, rfl⟩
set_option maxRecDepth 100000 in
set_option maxHeartbeats 2000000 in
theorem list_any (ad : Addr) (c : Nat) (x R : Nat → Int) (K : Nat) (hK : ∀ (args : Array Value) (w : World), (callFunc K args).run Tryd.prog w = .ok (.enter K args) w) (bnd cap : Array Value) (w : World) (hs : ∀ i, i < 8 → w.cell? (ad.add i) = some (vi (x i)))
    (hf : Calls Tryd.prog K (bnd ++ #[.agg (st x)] ++ cap) w fun e w' => e = .returned (.agg (st R)) ∧ Below w.heap.size w w') :
    Calls Tryd.prog 47 #[.slice (some ad) 8 c, .func (.func K) bnd cap] w fun e w' => Made ((List.range 8).map R) w e w' := by
  have x0 : w.cell? ad = some (vi (x 0)) := by have := hs 0 (by omega); simpa [Addr.add] using this
  have x1 : w.cell? ⟨ad.block, ad.off + 1, none⟩ = some (vi (x 1)) := by have := hs 1 (by omega); simpa [Addr.add] using this
  have x2 : w.cell? ⟨ad.block, ad.off + 2, none⟩ = some (vi (x 2)) := by have := hs 2 (by omega); simpa [Addr.add] using this
  have x3 : w.cell? ⟨ad.block, ad.off + 3, none⟩ = some (vi (x 3)) := by have := hs 3 (by omega); simpa [Addr.add] using this
  have x4 : w.cell? ⟨ad.block, ad.off + 4, none⟩ = some (vi (x 4)) := by have := hs 4 (by omega); simpa [Addr.add] using this
  have x5 : w.cell? ⟨ad.block, ad.off + 5, none⟩ = some (vi (x 5)) := by have := hs 5 (by omega); simpa [Addr.add] using this
  have x6 : w.cell? ⟨ad.block, ad.off + 6, none⟩ = some (vi (x 6)) := by have := hs 6 (by omega); simpa [Addr.add] using this
  have x7 : w.cell? ⟨ad.block, ad.off + 7, none⟩ = some (vi (x 7)) := by have := hs 7 (by omega); simpa [Addr.add] using this
  rw [st_lit] at hf
  have HF := Lib.hid hf
  clear hf hs
  have harr : ∀ W : World, (Instr.arrayAt 63 (.slice (some ad) 8 c)).run Tryd.prog W = .ok (.pointer (some ad)) W := fun W => by
    simp [Instr.arrayAt, run_underlying (P := Tryd.prog) Tryd.underlying63]
  go_enter Tryd.func47, Tryd.ntmps47
  go_wp2_with (first | (refine (HF.out).mono ?_; rintro _ w3 ⟨rfl, hb3⟩; have HB3 := Lib.hid hb3; clear hb3) | (refine wpList_store_row rfl 63 _ _ rfl w3.heap.size _ rfl rfl _ _ (Blk.new w3 _ _) (info8 _) (by rw [st_size]; rfl) (st_one _) ?_) | (go_at_call 46; refine (clone_any (some ⟨w3.heap.size, 0, none⟩) 8 8 ((List.range 8).map R) (by simp) (by omega) _ (sl_of_blk (setRow_heap _ _ _ _ _ _ (Blk.new w3 _ _)))).mono ?_; rintro _ w4 ⟨v, rfl, ho, hb4⟩))
  go_ret
  have hBN := below_setRow8 (HB3.out.alloc HB3.out.size (.cells (st fun _ => 0) 63)) HB3.out.size (st R)
  exact ⟨v, rfl, ho.more hBN.size, hBN.trans (hb4.mono hBN.size)⟩
set_option maxRecDepth 100000 in
set_option maxHeartbeats 2000000 in
theorem mix_not (A : Option Addr) (m c s : Nat) (hm : m ≠ 8) (w : World) (h63 : m ≤ 9223372036854775807) :
    Calls Tryd.prog 22 #[.pointer (some ⟨s, 0, none⟩), .slice A m c] w fun e w' => e = .returned (.slice none 0 0) ∧ Below w.heap.size w w' := by
  have HM := Lib.hid hm
  clear hm
  have hb1 : Below w.heap.size w (w.alloc (.cells #[.pointer (some ⟨s, 0, none⟩)] 23)) := (Below.refl _ _).alloc (Nat.le_refl _) _
  go_enter Tryd.func22, Tryd.ntmps22
  go_wp2_with (go_at_call 47; refine (list_not A m c _ HM.out _ h63).mono ?_; rintro _ _ ⟨rfl, rfl⟩)
  go_ret
  exact ⟨rfl, hb1⟩
set_option maxRecDepth 100000 in
set_option maxHeartbeats 2000000 in
theorem mix_any (p S b s k z : Nat) [NeZero p] (oo : Nat → Nat → Fin p) (ad : Addr) (c : Nat) (x : Nat → Int) (hx : ∀ i, I64 (x i)) (w : World) (F : Fld w S b p) (G : Spg w s b k z oo) (hl : ad.block < w.heap.size) (hs : ∀ i, i < 8 → w.cell? (ad.add i) = some (vi (x i))) :
    Calls Tryd.prog 22 #[.pointer (some ⟨s, 0, none⟩), .slice (some ad) 8 c] w fun e w' => Made ((List.range 8).map fun i => fv (ap (cauchy p) (fun j => el p (x j)) i)) w e w' := by
  have hsl := block_lt_of_cell G.c0
  have hK := callFunc_enters Tryd.func49 (by kernel_rfl) (by kernel_rfl)
  have hb1 : Below w.heap.size w (w.alloc (.cells #[.pointer (some ⟨s, 0, none⟩)] 23)) := (Below.refl _ _).alloc (Nat.le_refl _) _
  have hg : (w.alloc (.cells #[.pointer (some ⟨s, 0, none⟩)] 23)).cell? ⟨w.heap.size, 0, none⟩ = some (.pointer (some ⟨s, 0, none⟩)) := by rw [(Blk.new w _ _).cell]; rfl
  have hm1 := mix1_any p S b s k z w.heap.size oo x hx _ (F.below hb1 F.le) (G.below hb1 hsl) hg
  have hl1 := list_any ad c x _ 49 hK #[] #[.pointer (some ⟨w.heap.size, 0, none⟩)] _ (fun i hi => (hb1.cell (p := ad.add i) (by unfold Addr.add; split <;> exact hl)).trans (hs i hi)) hm1
  have HL := Lib.hid hl1
  have HB := Lib.hid hb1
  clear hm1 hl1 hK hg hb1
  go_enter Tryd.func22, Tryd.ntmps22
  go_wp2_with (go_at_call 47; refine (HL.out).mono ?_; rintro _ w4 ⟨v, rfl, ho, hb4⟩)
  go_ret
  exact ⟨v, rfl, ho.more HB.out.size, HB.out.trans (hb4.mono HB.out.size)⟩
end Go.Proofs.YtlcmacdeadmloaaDoor

/- law3.plain: a sponge, or none. -/
set_option linter.unusedVariables false
namespace Go.Proofs.YtlcmacdeadmloaaDoor
open Go.RowKit Zp

set_option maxHeartbeats 2000000 in
theorem spnew_none (p S b : Nat) [NeZero p] (h23 : p < 23) (w : World) (F : Fld w S b p) :
    Calls Tryd.prog 35 #[.pointer (some ⟨b, 0, none⟩)] w fun e w' => e = .returned (.tuple #[.pointer none, .iface 87 (.int .i64 3)]) ∧ w = w' := by
  have hcb := F.c0
  have tq : ((p : Int) < 23) = True := by simp; omega
  go_enter Tryd.func35, Tryd.ntmps35
  go_wp2_with (go_at_call 18; refine (p_any p b _ (by exact hcb)).mono ?_; rintro _ _ ⟨rfl, rfl⟩)
  go_ret2
  exact ⟨rfl, rfl⟩
end Go.Proofs.YtlcmacdeadmloaaDoor

/- same.Sponge: a sponge, as far as there is one, and that the program says so too. -/
set_option linter.unusedVariables false
namespace Go.Proofs.YtlcmacdeadmloaaDoor
open Go.RowKit Zp

/-- is there a sponge? -/
def HasSponge (p : Int) : Prop := HasField p ∧ 23 ≤ p
def NoSponge (w : World) (e : Ending) (w' : World) : Prop := SaysW (.tuple #[.pointer none, .bool true]) w e w'
theorem ssponge_no (p : Int) (hp : I64 p) (h : ¬ HasSponge p) (w : World) (hT : Typed w) :
    Calls Tryd.prog 8 #[vi p] w fun e w' => NoSponge w e w' := by
  by_cases hf : HasField p
  · obtain ⟨n, rfl⟩ := Int.eq_ofNat_of_zero_le (a := p) (by have := hf.1; omega)
    have hpn : IsPrime n := by simpa using hf.2.2
    haveI := hpn.ne
    have h23 : n < 23 := by
      rcases Nat.lt_or_ge n 23 with h1 | h1
      · exact h1
      · exact absurd ⟨hf, by omega⟩ h
    have HF := Lib.hid (sfield_yes n (by have := hf.1; omega) (by have := hf.2.1; omega) hpn w hT)
    have HS := Lib.hid (fun S b W F => spnew_none n S b h23 W F)
    have he := fun W hT => error_any 3 3 W hT
    rw [errV_ne (by decide), show ((3 : Int) == 3) = true from rfl] at he
    have HE := Lib.hid he
    have t1 : ¬ (23 : Int) ≤ (n : Int) := by omega
    clear he hf h hpn h23
    go_enter Tryd.func8, Tryd.ntmps8
    go_wp2_with fail
    refine (HF.out).mono ?_
    rintro e w1 ⟨b, rfl, F, hb1⟩
    go_wp2_with fail
    refine (HS.out _ _ _ F).mono ?_
    rintro e _ ⟨rfl, rfl⟩
    go_wp2_with fail
    refine (HE.out _ (hT.below hb1)).mono ?_
    rintro e w2 ⟨rfl, hb2⟩
    go_wp2
    go_ret2
    exact ⟨rfl, hb1.trans (hb2.mono hb1.size)⟩
  · have HF := Lib.hid (sfield_no p hp hf w hT)
    clear hf h
    go_enter Tryd.func8, Tryd.ntmps8
    go_wp2_with fail
    refine (HF.out).mono ?_
    rintro e w1 ⟨rfl, hb1⟩
    go_wp2
    go_ret2
    exact ⟨rfl, hb1⟩
def YesSponge (q : Nat) [NeZero q] (w : World) (e : Ending) (w' : World) : Prop :=
  ∃ (s b k z : Nat) (oo : Nat → Nat → Fin q), e = .returned (.tuple #[.pointer (some ⟨s, 0, none⟩), .bool true]) ∧ Fld w' w'.heap.size b q ∧ Spg w' s b k z oo ∧ w.heap.size ≤ s ∧ s < w'.heap.size ∧ Below w.heap.size w w'
theorem ssponge_yes (q : Nat) [NeZero q] (h23 : 23 ≤ q) (hm : q ≤ 2147483647) (hpr : IsPrime q) (w : World) (hT : Typed w) :
    Calls Tryd.prog 8 #[vi q] w fun e w' => YesSponge q w e w' := by
  have HF := Lib.hid (sfield_yes q (by omega) hm hpr w hT)
  have HS := Lib.hid (fun S b W F => spnew_any q S b h23 W F)
  have he := fun W hT => error_any 0 0 W hT
  rw [errV_zero, show ((0 : Int) == 0) = true from rfl] at he
  have HE := Lib.hid he
  have t1 : (23 : Int) ≤ (q : Int) := by omega
  clear he hpr h23
  go_enter Tryd.func8, Tryd.ntmps8
  go_wp2_with fail
  refine (HF.out).mono ?_
  rintro e w1 ⟨b, rfl, F, hb1⟩
  go_wp2_with fail
  refine (HS.out _ _ _ F).mono ?_
  rintro e w2 ⟨rfl, ⟨k, z, oo, G⟩, hb2⟩
  have hb12 := hb1.trans (hb2.mono hb1.size)
  have hsl := block_lt_of_cell G.c0
  go_wp2_with fail
  refine (HE.out _ (hT.below hb12)).mono ?_
  rintro e w3 ⟨rfl, hb3⟩
  go_wp2
  go_ret2
  exact ⟨_, b, k, z, oo, rfl, (F.below hb2 (Nat.le_refl _) |>.moreS hb2.size (Nat.le_refl _)).below hb3 (Nat.le_refl _) |>.moreS hb3.size (Nat.le_refl _), G.below hb3 hsl, hb1.size, Nat.lt_of_lt_of_le hsl hb3.size, hb12.trans (hb3.mono hb12.size)⟩
theorem hasSponge_nat {p : Int} (h : HasSponge p) : ∃ n : Nat, p = n ∧ 23 ≤ n ∧ n ≤ 2147483647 ∧ IsPrime n := by
  obtain ⟨n, rfl⟩ := Int.eq_ofNat_of_zero_le (a := p) (by have := h.2; omega)
  exact ⟨n, rfl, by have := h.2; omega, by have := h.1.2.1; omega, by simpa using h.1.2.2⟩
end Go.Proofs.YtlcmacdeadmloaaDoor

/- Walks: attestsame.Ints, slices.Clip, the reference's At. -/
set_option linter.unusedVariables false
namespace Go.Proofs.YtlcmacdeadmloaaDoor
open Go.RowKit

/-- two lists are the same; a Bool behind a name -/
def eqB (xs ys : List Int) : Bool := decide (xs = ys)
theorem eqB_true {xs ys : List Int} (h : xs = ys) : eqB xs ys = true := decide_eq_true h
theorem eqB_false {xs ys : List Int} (h : xs ≠ ys) : eqB xs ys = false := decide_eq_false h

def IntsRel (xs ys : List Int) (w : World) (i : Value) (wr : World) : Prop := ∃ k : Nat, k ≤ xs.length ∧ i = vi k ∧ xs.take k = ys.take k ∧ ∃ j, wr = w.drewN j

set_option maxHeartbeats 1000000 in
theorem ints_any (A B : Option Addr) (c d : Nat) (xs ys : List Int) (hx : xs.length ≤ 9223372036854775807) (hy : ys.length ≤ 9223372036854775807) (w : World) (hsx : SL w A xs) (hsy : SL w B ys) :
    Calls Tryd.prog 11 #[.slice A xs.length c, .slice B ys.length d] w fun e w' => e = .returned (.bool (eqB xs ys)) ∧ ∃ k, w' = w.drewN k := by
  obtain ⟨n, hn⟩ : ∃ n, n = xs.length := ⟨_, rfl⟩
  obtain ⟨m, hm⟩ : ∃ m, m = ys.length := ⟨_, rfl⟩
  rw [← hn, ← hm]
  rw [← hn] at hx
  rw [← hm] at hy
  have HN := Lib.hid hn
  have HM := Lib.hid hm
  clear hn hm
  by_cases hnm : n = m
  · have t1 : ((n : Int) != (m : Int)) = false := by rw [bne_eq_false_iff_eq]; omega
    have HNM := Lib.hid hnm
    clear hnm
    go_enter Tryd.func11, Tryd.ntmps11
    go_wp2
    go_loopw [5] (fun i wr => IntsRel xs ys w i wr) (fun i _ => n - (intOf i).toNat)
    case atStart => exact ⟨0, Nat.zero_le _, rfl, by simp, 0, rfl⟩
    case round =>
      obtain ⟨k, hk, rfl, heq, j, rfl⟩ := hrel
      rw [← HN.out] at hk
      have HEQ := Lib.hid heq
      clear heq
      by_cases hlt : k < n
      · have hkm : k < m := by rw [← HNM.out]; exact hlt
        have hkx : k < xs.length := by rw [← HN.out]; exact hlt
        have hky : k < ys.length := by rw [← HM.out]; exact hkm
        obtain ⟨ad, rfl, _, hc1⟩ := (hsx.drewN j).at_ hkx
        obtain ⟨bd, rfl, _, hc2⟩ := (hsy.drewN j).at_ hky
        have i1 : (0 : Int) ≤ k := by omega
        have i2 : (k : Int) < n := by omega
        have i3 : (k : Int) < m := by omega
        have htk : xs.take (k + 1) = xs.take k ++ [xs[k]] := List.take_succ_eq_append_getElem hkx
        have hty : ys.take (k + 1) = ys.take k ++ [ys[k]] := List.take_succ_eq_append_getElem hky
        obtain ⟨x, hxk⟩ : ∃ x, x = xs[k] := ⟨_, rfl⟩
        obtain ⟨y, hyk⟩ : ∃ y, y = ys[k] := ⟨_, rfl⟩
        rw [← hxk] at hc1 htk
        rw [← hyk] at hc2 hty
        rw [World.cell?_drewN] at hc1 hc2
        by_cases hxy : x = y
        · have t2 : (x != y) = false := by rw [hxy]; simp
          have h2 : xs.take (k + 1) = ys.take (k + 1) := by rw [htk, hty, HEQ.out, hxy]
          have H2 := Lib.hid h2
          clear h2 hxy htk hty hxk hyk
          go_wp2
          go_quiet (fail)
          go_wp2
          go_roundw
          case rel => exact ⟨k + 1, by rw [← HN.out]; omega, by go_num, H2.out, _, rfl⟩
          case measure => simp [intOf]; omega
        · have t2 : (x != y) = true := by rw [bne_iff_ne]; exact hxy
          have h2 : eqB xs ys = false := eqB_false fun e => by
            subst e
            exact hxy (by rw [hxk, hyk])
          have H2 := Lib.hid h2
          clear h2 hxy htk hty hxk hyk
          go_wp2
          go_quiet (fail)
          go_wp2
          go_ret
          exact ⟨ret_bool H2.out.symm, _, World.drewN_drewN _ _ _⟩
      · obtain rfl : k = n := by omega
        have h2 : eqB xs ys = true := eqB_true (by
          have := HEQ.out
          rwa [List.take_of_length_le (by rw [← HN.out]; exact Nat.le_refl _), List.take_of_length_le (by rw [← HM.out, ← HNM.out]; exact Nat.le_refl _)] at this)
        have H2 := Lib.hid h2
        clear h2
        go_wp2
        go_ret
        exact ⟨ret_bool H2.out.symm, _, rfl⟩
  · have t1 : ((n : Int) != (m : Int)) = true := by rw [bne_iff_ne]; omega
    have h2 : eqB xs ys = false := eqB_false fun e => hnm (by rw [HN.out, HM.out, e])
    have H2 := Lib.hid h2
    clear h2 hnm
    go_enter Tryd.func11, Tryd.ntmps11
    go_wp2
    go_ret
    exact ⟨ret_bool H2.out.symm, 0, rfl⟩

theorem clip_any (A : Option Addr) (n c : Nat) (hn : n ≤ c) (hc : c ≤ 9223372036854775807) (w : World) :
    Calls Tryd.prog 38 #[.slice A n c] w fun e w' => e = .returned (.slice A n n) ∧ w = w' := by
  go_enter Tryd.func38, Tryd.ntmps38
  go_wp2
  go_ret
  exact ⟨rfl, rfl⟩

end Go.Proofs.YtlcmacdeadmloaaDoor

/- The walk of (*Domain).Values. -/
set_option linter.unusedVariables false
namespace Go.Proofs.YtlcmacdeadmloaaDoor
open Go.RowKit Zp

/-- a root of a power of two: the half of its order makes -1 -/
theorem root_cond {p : Nat} [NeZero p] (hp : IsPrime p) {n : Nat} (h : SizeOk p n) {r : Fin p} (hr : Ord r n) : n = 1 ∨ ∃ m, n = 2 * m ∧ pw r m = -1 := by
  obtain ⟨⟨k, _, e⟩, _⟩ := h
  cases k with
  | zero => exact .inl e
  | succ k =>
    have e2 : n = 2 * 2 ^ k := by rw [e, Nat.pow_succ, Nat.mul_comm]
    rw [e2] at hr
    exact .inr ⟨2 ^ k, e2, ord_half hp (Nat.pow_pos (by omega)) hr⟩


/-- a slice of n ints that is read alone -/
def GivesN (n : Nat) (xs : List Int) (w : World) (e : Ending) (w' : World) : Prop := ∃ A c, xs.length = n ∧ e = .returned (.slice A n c) ∧ n ≤ c ∧ c ≤ maxLen ∧ SL w' A xs ∧ Below w.heap.size w w'
theorem Gives.n {xs : List Int} {w w' : World} {e : Ending} (h : Gives xs w e w') {n : Nat} (hn : xs.length = n) : GivesN n xs w e w' := by
  obtain ⟨A, c, h1, h2, h3, h4, h5⟩ := h
  subst hn
  exact ⟨A, c, rfl, h1, h2, h3, h4, h5⟩
theorem SL.co {p : Nat} [NeZero p] {w : World} {A : Option Addr} {l : List (Fin p)} (h : SL w A (fvs l)) {k : Nat} (hk : k < l.length) : ∃ ad, A = some ad ∧ w.cell? (ad.add k) = some (vi (fv (co l k))) := by
  obtain ⟨ad, h1, _, h2⟩ := h.at_ (k := k) (by simpa using hk)
  exact ⟨ad, h1, by rw [h2, co_of_lt hk, List.getElem_map]⟩
end Go.Proofs.YtlcmacdeadmloaaDoor

/- Walks: bits.Len of powers of two, sums.variables. -/
set_option linter.unusedVariables false
namespace Go.Proofs.YtlcmacdeadmloaaDoor
open Go.RowKit Zp

end Go.Proofs.YtlcmacdeadmloaaDoor

/- Walks: Point, Half, fold.one, folded, Fold. -/
set_option linter.unusedVariables false
namespace Go.Proofs.YtlcmacdeadmloaaDoor
open Go.RowKit Zp





end Go.Proofs.YtlcmacdeadmloaaDoor

/- Walks: sums.fixed, Fix, Extend. -/
set_option linter.unusedVariables false
namespace Go.Proofs.YtlcmacdeadmloaaDoor
open Go.RowKit Zp

end Go.Proofs.YtlcmacdeadmloaaDoor

/- Walks: code.may, Encode, Distance. -/
set_option linter.unusedVariables false
namespace Go.Proofs.YtlcmacdeadmloaaDoor
open Go.RowKit Zp



theorem of_elq (p : Nat) [NeZero p] (hp2 : p ≤ 2147483647) (b : Nat) (n : Int) (hn : I64 n) (w : World) (hc : w.cell? ⟨b, 0, none⟩ = some (vi p)) :
    Calls Tryd.prog 37 #[.pointer (some ⟨b, 0, none⟩), vi n] w fun e w' => e = .returned (vi (fv (el p n))) ∧ w = w' :=
  (of_el p hp2 b n hn w hc).mono fun _ _ h => ⟨h.1, h.2.symm⟩
end Go.Proofs.YtlcmacdeadmloaaDoor

/- Walk: sums.Extend. -/
set_option linter.unusedVariables false
namespace Go.Proofs.YtlcmacdeadmloaaDoor
open Go.RowKit Zp

end Go.Proofs.YtlcmacdeadmloaaDoor

/- Tables in memory; walks: sums.total. -/
set_option linter.unusedVariables false
namespace Go.Proofs.YtlcmacdeadmloaaDoor
open Go.RowKit Zp

/-- a product of k -/
def prodT {p : Nat} [NeZero p] (k : Nat) (f : Nat → Fin p) : Fin p := match k with
  | 0 => 1
  | k + 1 => prodT k f * f k
theorem prodT_succ {p : Nat} [NeZero p] (k : Nat) (f : Nat → Fin p) : prodT (k + 1) f = prodT k f * f k := rfl
theorem prodT_congr {p : Nat} [NeZero p] {k : Nat} {f g : Nat → Fin p} (h : ∀ i, i < k → f i = g i) : prodT k f = prodT k g := by
  induction k with
  | zero => rfl
  | succ k ih => rw [prodT_succ, prodT_succ, ih (fun i hi => h i (by omega)), h k (by omega)]
/-- table number j of several -/
def tabOf (p : Nat) [NeZero p] (ts : List (List Int)) (j : Nat) : List (Fin p) := els p (ts.getD j [])
/-- the sum of the products of the tables -/
def totP {p : Nat} [NeZero p] (d n : Nat) (T : Nat → List (Fin p)) : Fin p := sumT n fun i => prodT d fun j => co (T j) i

/-- several tables in memory -/
def TB (w : World) (A0 : Option Addr) (ts : List (List Int)) : Prop :=
  ∀ k (hk : k < ts.length), ∃ ad A n c, A0 = some ad ∧ (ad.add k).block < w.heap.size ∧ w.cell? (ad.add k) = some (.slice A n c) ∧ ts[k].length = n ∧ n < 9223372036854775808 ∧ SL w A ts[k] ∧ ∀ x ∈ ts[k], I64 x
theorem TB.below {w w' : World} {A0 : Option Addr} {ts : List (List Int)} (h : TB w A0 ts) (hb : Below w.heap.size w w') : TB w' A0 ts := fun k hk => by
  obtain ⟨ad, A, n, c, h1, h2, h3, h4, h5, h6, h7⟩ := h k hk
  exact ⟨ad, A, n, c, h1, Nat.lt_of_lt_of_le h2 hb.size, (hb.cell h2).trans h3, h4, h5, h6.below hb, h7⟩
theorem TB.drewN {w : World} {A0 : Option Addr} {ts : List (List Int)} (h : TB w A0 ts) (m : Nat) : TB (w.drewN m) A0 ts := h

end Go.Proofs.YtlcmacdeadmloaaDoor

/- A slice of ints that came in. -/
set_option linter.unusedVariables false
namespace Go.Proofs.YtlcmacdeadmloaaDoor
open Go.RowKit

/-- '.slice A n c' came in and reads as xs -/
structure ArgS (w : World) (A : Option Addr) (n c : Nat) (xs : List Int) : Prop where
  len : xs.length = n
  cap : n ≤ c
  i64 : ∀ x ∈ xs, I64 x
  reach : c * 8 ≤ 140737488351232
  sl : SL w A xs

theorem ArgS.nil (w : World) : ArgS w none 0 0 [] := ⟨rfl, Nat.le_refl _, by simp, by omega, SL.nil⟩
theorem i64_of_wf {n : Int} (h : (Lit.int .i64 n).wf = true) : I64 n := by
  simpa [Lit.wf, IntKind.min, IntKind.max, IntKind.signed, IntKind.bits] using h

theorem ArgS.mk_ {w : World} {a : Addr} {len cap : Nat} {zs : List Int} (hl : len ≤ cap) (hm : cap ≤ maxLen) (hz : zs.length = cap) (lt : ∀ q ∈ MemPlace.row a zs.length, q.block < w.heap.size)
    (hcell : ∀ i, i < zs.length → w.cell? (a.add i) = some (.int .i64 (zs.getD i 0))) (hwz : ∀ n ∈ zs, (Lit.int .i64 n).wf = true) (hb : cap * 8 ≤ 140737488351232) : ArgS w (some a) len cap (zs.take len) := by
  have hlen : (zs.take len).length = len := by rw [List.length_take, hz]; omega
  refine ⟨hlen, hl, fun x hx => i64_of_wf (hwz x (List.mem_of_mem_take hx)), hb, ?_⟩
  refine ⟨by simp, fun hn => ⟨a, rfl, ?_, fun j u hu => ?_⟩⟩
  · have h0 : 0 < zs.length := by rw [hlen] at hn; omega
    have hc0 := hcell 0 h0
    have : (a.add 0).block < w.heap.size := by
      false_or_by_contra
      rename_i hge
      rw [World.cell?, Array.getElem?_eq_none (by omega)] at hc0
      cases hc0
    rwa [block_of_add] at this
  · rw [List.getElem?_map] at hu
    cases hj : (zs.take len)[j]? with
    | none => rw [hj] at hu; cases hu
    | some x =>
      rw [hj] at hu
      injection hu with hu
      rw [List.getElem?_take] at hj
      split at hj
      · have hjl : j < zs.length := (List.getElem?_eq_some_iff.1 hj).1
        rw [hcell j hjl, ← hu]
        simp [List.getD_eq_getElem?_getD, hj]
      · cases hj

section
variable {w w' : World} {A : Option Addr} {n c : Nat} {xs : List Int}
theorem ArgS.below (h : ArgS w A n c xs) (hb : Below w.heap.size w w') : ArgS w' A n c xs := ⟨h.len, h.cap, h.i64, h.reach, h.sl.below hb⟩
theorem ArgS.r8 (h : ArgS w A n c xs) : xs.length * 8 ≤ 140737488351232 := by
  have := h.reach
  have := h.cap
  have := h.len
  omega
end
end Go.Proofs.YtlcmacdeadmloaaDoor

/- Own slices of slices of ints: append of one; how they read; slices of slices of ints that came in. -/
set_option linter.unusedVariables false
namespace Go.Proofs.YtlcmacdeadmloaaDoor
open Go.RowKit Zp

theorem info_ints : (Tryd.prog.info? 22).map (fun i => (i.zero, i.size, i.bytes)) = some (some (.slice none 0 0), 1, 24) := by kernel_rfl

/-- the call's own slice of slices of ints -/
abbrev OwnR (w : World) (base : Nat) (v : Value) (us : List Value) : Prop := w.ownsRow base 22 1 v us.length us
/-- each is a slice of ints of the call's own -/
def RowsOwn (w : World) (base : Nat) (us : List Value) (ls : List (List Int)) : Prop := us.length = ls.length ∧ ∀ k (h : k < us.length) (h' : k < ls.length), Own w base us[k] ls[k]

theorem own_ne {w : World} {base base' : Nat} {v u : Value} {xs : List Int} {us : List Value} (h : Own w base v xs) (k : OwnR w base' u us) : v.ownBlock = none ∨ v.ownBlock ≠ u.ownBlock := by
  rcases h.2 with ⟨rfl, _⟩ | ⟨g, cap, cur, rfl, _, hg, _⟩
  · exact .inl rfl
  · refine .inr ?_
    rcases k.2 with ⟨rfl, _⟩ | ⟨g', cap', cur', rfl, _, hg', _⟩
    · intro e; cases e
    · intro e
      injection e with e
      subst e
      rw [hg] at hg'
      injection hg' with hg'
      injection hg' with _ ht
      exact absurd ht (by decide)

/-- what an append of an own row leaves -/
structure GrewR (w w' : World) (base : Nat) (v v' : Value) (us : List Value) : Prop where
  own : OwnR w' base v' us
  grown : w.grownBy w' v.ownBlock

theorem GrewR.below {w0 w w' : World} {base : Nat} {v v' : Value} {us vs : List Value} (h : GrewR w w' base v v' us) {B : Nat} (hb : Below B w0 w) (ho : OwnR w base v vs) (hB : B ≤ base) (hs : B ≤ w.heap.size) : Below B w0 w' :=
  hb.grown h.grown hs (fun k hk => Nat.le_trans hB (World.ownsRow.lt ho k hk).1)
theorem GrewR.rows {w w' : World} {base base2 : Nat} {v v' : Value} {us vs ws : List Value} {ls : List (List Int)} (h : GrewR w w' base v v' us) (ho : OwnR w base v vs) (hr : RowsOwn w base2 ws ls) : RowsOwn w' base2 ws ls :=
  ⟨hr.1, fun k h1 h2 => (hr.2 k h1 h2).grown h.grown (own_ne (hr.2 k h1 h2) ho)⟩

theorem run_appR (w : World) (base : Nat) (v : Value) (us : List Value) (A : Option Addr) (n c : Nat) (hown : OwnR w base v us) (hlen : us.length < 5864062014805) (hbase : base ≤ w.heap.size) (ty : TypeId) :
    ∃ v' w', (Builtin.append_ #[36, 36] ty #[v, .slice (some ⟨w.heap.size, 0, none⟩) 1 1]).run Tryd.prog (w.alloc (.cells #[.slice A n c] 22)) = .ok v' w' ∧ GrewR w w' base v v' (us ++ [.slice A n c]) := by
  obtain ⟨i0, hi, hz0, hz1, hz2⟩ := info_parts info_ints
  obtain ⟨v', w', hrun, h2, h3, _, h5⟩ := run_append_own_at (P := Tryd.prog) (w.alloc (.cells #[.slice A n c] 22)) base 36 ty 22 i0 _ 1 24 Tryd.underlying36 hi hz0 hz1 hz2 rfl (by omega)
    v us.length us (hown.alloc _) ⟨w.heap.size, 0, none⟩ 1 1 [.slice A n c] rfl (by
      intro j u hj
      match j, hj with
      | 0, hj => simp at hj; subst hj; simp [Addr.add]) (by simp [Value.oneCell']) (by simp only [maxLen]; omega) (by omega) (by simp; omega)
  refine ⟨v', w', hrun, ?_, grownBy_trans (World.grownBy_alloc w _ _) h3⟩
  have e : (us ++ [Value.slice A n c]).length = us.length + 1 := by simp
  rw [OwnR, e]
  exact h2

/-- append of one row -/
theorem wpList_appR {ops : Array Oper} {rest : List Oper} {o : Oper} {a : Act} {Q : Exit → Act → World → Prop} (w : World) (A : Option Addr) (n c : Nat) (hgd : o.guard = none) (s x : Operand)
    (ho : o.op = .call { callee := .builtin .append, args := #[s, x], argTypes := #[36, 36] })
    (base : Nat) (v : Value) (us : List Value) (hs : a.eval s = v) (hx : a.eval x = .slice (some ⟨w.heap.size, 0, none⟩) 1 1) (hown : OwnR w base v us) (hlen : us.length < 5864062014805) (hbase : base ≤ w.heap.size)
    (h : ∀ v' w', GrewR w w' base v v' (us ++ [.slice A n c]) → wpList Tryd.prog ops Q rest (a.put o.dst v') w') : wpList Tryd.prog ops Q (o :: rest) a (w.alloc (.cells #[.slice A n c] 22)) :=
  wpList_plain hgd fun _ hK => by
    obtain ⟨v', w', hrun, hg⟩ := run_appR w base v us A n c hown hlen hbase o.type
    unfold Oper.wp execOp
    simp only [ho, resolve, invoke, builtin, Sem.run_bind, Sem.run_pure, Result.andThen_ok, List.map_toArray, List.map_cons, List.map_nil, hs, hx, hrun]
    exact hK _ _ (h v' w' hg)

theorem RowsOwn.nil (w : World) (base : Nat) : RowsOwn w base [] [] := ⟨rfl, fun k h => absurd h (by simp)⟩
theorem RowsOwn.snoc {w : World} {base : Nat} {us : List Value} {ls : List (List Int)} {u : Value} {l : List Int} (h : RowsOwn w base us ls) (hu : Own w base u l) : RowsOwn w base (us ++ [u]) (ls ++ [l]) := by
  have hl := h.1
  refine ⟨by simp [hl], fun k h1 h2 => ?_⟩
  by_cases hk : k < us.length
  · rw [List.getElem_append_left hk, List.getElem_append_left (by omega)]
    exact h.2 k hk (by omega)
  · have e : k = us.length := by simp at h1; omega
    subst e
    rw [List.getElem_append_right (Nat.le_refl _), List.getElem_append_right (by omega)]
    simpa [hl] using hu
theorem RowsOwn.below {w w' : World} {base : Nat} {us : List Value} {ls : List (List Int)} (h : RowsOwn w base us ls) (hb : Below w.heap.size w w') : RowsOwn w' base us ls := ⟨h.1, fun k h1 h2 => (h.2 k h1 h2).below hb⟩
theorem RowsOwn.more {w : World} {base base' : Nat} {us : List Value} {ls : List (List Int)} (h : RowsOwn w base us ls) (hb : base' ≤ base) : RowsOwn w base' us ls := ⟨h.1, fun k h1 h2 => (h.2 k h1 h2).more hb⟩

/-- own rows read as tables -/
theorem tb_own {w : World} {base base2 : Nat} {A : Option Addr} {n c : Nat} {us : List Value} {ls : List (List Int)} (h : OwnR w base (.slice A n c) us) (hr : RowsOwn w base2 us ls) (hi : ∀ l ∈ ls, ∀ x ∈ l, I64 x) : TB w A ls := fun k hk => by
  have hku : k < us.length := by rw [hr.1]; exact hk
  have hn : us.length = n := by
    rcases h.2 with ⟨e, h0⟩ | ⟨g, cap, cur, e, _⟩
    · injection e with _ e2 _; omega
    · injection e with _ e2 _; exact e2.symm
  subst hn
  have hrd := Reads.of_own h
  obtain ⟨ad, u, e1, e2, e3, e4⟩ := Reads.at_ (k := k) hrd (by omega)
  have e5 : u = us[k] := by
    rw [List.getElem?_eq_getElem hku] at e3
    injection e3 with e3
    exact e3.symm
  obtain ⟨A1, n1, c1, e6, e7, e8, e9, e10⟩ := (hr.2 k hku hk).shapeN
  have hm : maxLen < 9223372036854775808 := by simp [maxLen]
  exact ⟨ad, A1, n1, c1, e1, by rw [block_of_add]; exact e2, by rw [e4, e5, e6], e7, by omega, e10, hi _ (List.getElem_mem hk)⟩
theorem ownR_shape {w : World} {base : Nat} {v : Value} {us : List Value} (h : OwnR w base v us) : ∃ A n c, v = .slice A n c ∧ us.length = n ∧ n ≤ c := by
  rcases h.2 with ⟨rfl, h0⟩ | ⟨g, cap, cur, rfl, _, _, h1, _⟩
  · exact ⟨none, 0, 0, rfl, h0, Nat.le_refl _⟩
  · exact ⟨_, _, _, rfl, rfl, h1⟩

/-- '.slice A n c' came in and reads as rows -/
structure ArgM (w : World) (A : Option Addr) (n c : Nat) (ts : List (List Int)) : Prop where
  len : ts.length = n
  cap : n ≤ c
  max : c ≤ 9223372036854775807
  tb : TB w A ts
theorem ArgM.nil (w : World) : ArgM w none 0 0 [] := ⟨rfl, Nat.le_refl _, by omega, fun k hk => absurd hk (by simp)⟩
theorem ArgM.mk_ {w : World} {a : Addr} {len cap : Nat} {A : Nat → Option Addr} {L C : Nat → Nat} {Z : Nat → List Int} (hl : len ≤ cap) (hm : cap ≤ maxLen)
    (h : ∀ r, r < cap → w.cell? (a.add r) = some (.slice (A r) (L r) (C r)) ∧ L r ≤ C r ∧ C r ≤ maxLen ∧ (Z r).length = C r ∧ (∀ n ∈ Z r, (Lit.int .i64 n).wf = true) ∧ (A r = none → C r = 0) ∧
        ∀ a', A r = some a' → 0 ≤ a'.block ∧ ∀ c, c < C r → w.cell? (a'.add c) = some (.int .i64 ((Z r).getD c 0))) :
    ArgM w (some a) len cap ((List.range len).map fun r => (Z r).take (L r)) := by
  have hmm : maxLen ≤ 9223372036854775807 := by simp [maxLen]
  refine ⟨by simp, hl, by omega, fun k hk => ?_⟩
  have hk' : k < len := by simpa using hk
  obtain ⟨h1, h2, h3, h4, h5, h6, h7⟩ := h k (by omega)
  have e : ((List.range len).map fun r => (Z r).take (L r))[k] = (Z k).take (L k) := by simp
  rw [e]
  have hlen : ((Z k).take (L k)).length = L k := by rw [List.length_take, h4]; omega
  refine ⟨a, A k, L k, C k, rfl, block_lt_of_cell h1, h1, hlen, by omega, ⟨by simp, fun hn => ?_⟩, fun x hx => i64_of_wf (h5 x (List.mem_of_mem_take hx))⟩
  rw [hlen] at hn
  cases hA : A k with
  | none => have := h6 hA; omega
  | some a' =>
    obtain ⟨_, h8⟩ := h7 a' hA
    have hc0 := h8 0 (by omega)
    refine ⟨a', rfl, ?_, fun j u hu => ?_⟩
    · have := block_lt_of_cell hc0
      rwa [block_of_add] at this
    · rw [List.getElem?_map] at hu
      cases hj : ((Z k).take (L k))[j]? with
      | none => rw [hj] at hu; cases hu
      | some x =>
        rw [hj] at hu
        injection hu with hu
        rw [List.getElem?_take] at hj
        split at hj
        · have hjl : j < (Z k).length := (List.getElem?_eq_some_iff.1 hj).1
          rw [h8 j (by omega), ← hu]
          simp [List.getD_eq_getElem?_getD, hj]
        · cases hj
end Go.Proofs.YtlcmacdeadmloaaDoor

/- Sponge.Power, Field; what Pad makes. -/
set_option linter.unusedVariables false
namespace Go.Proofs.YtlcmacdeadmloaaDoor
open Go.RowKit Zp

theorem power_s {p : Nat} [NeZero p] (s b k z : Nat) (oo : Nat → Nat → Fin p) (w : World) (G : Spg w s b k z oo) :
    Calls Tryd.prog 13 #[.pointer (some ⟨s, 0, none⟩)] w fun e w' => e = .returned (vi k) ∧ w = w' := by
  have h1 := G.c1
  clear G
  go_enter Tryd.func13, Tryd.ntmps13
  go_wp2
  go_ret
  exact ⟨rfl, rfl⟩
/-- a list with what stands behind it: a 1, and zeros till its length is a multiple of four -/
def padN (n : Nat) : Nat := (4 - (n + 1) % 4) % 4
def padL (l : List Int) : List Int := l ++ [1] ++ List.replicate (padN l.length) 0
theorem padL_length (l : List Int) : (padL l).length % 4 = 0 := by
  unfold padL padN
  simp only [List.length_append, List.length_cons, List.length_nil, List.length_replicate]
  omega
theorem padL_five : padL [5] = [5, 1, 0, 0] := by decide
/-- the power of 97 is 5 -/
theorem power_97 {k : Nat} (h2 : 2 ≤ k) (hl : ∀ j, 2 ≤ j → j < k → Nat.gcd j 96 ≠ 1) (hc : Nat.gcd k 96 = 1) : k = 5 := by
  have h5 : k ≤ 5 := by
    rcases Nat.lt_or_ge 5 k with h | h
    · exact absurd (by decide) (hl 5 (by omega) h)
    · exact h
  have : k = 2 ∨ k = 3 ∨ k = 4 ∨ k = 5 := by omega
  rcases this with rfl | rfl | rfl | rfl
  · exact absurd hc (by decide)
  · exact absurd hc (by decide)
  · exact absurd hc (by decide)
  · rfl
end Go.Proofs.YtlcmacdeadmloaaDoor

/- The walks of Sponge.Matrix and Sponge.Field. -/
set_option linter.unusedVariables false
namespace Go.Proofs.YtlcmacdeadmloaaDoor
open Go.RowKit Zp

theorem sfield_s {p : Nat} [NeZero p] (s b k z : Nat) (oo : Nat → Nat → Fin p) (w : World) (G : Spg w s b k z oo) :
    Calls Tryd.prog 17 #[.pointer (some ⟨s, 0, none⟩)] w fun e w' => e = .returned (.pointer (some ⟨b, 0, none⟩)) ∧ w = w' := by
  have h1 := G.c0
  clear G
  go_enter Tryd.func17, Tryd.ntmps17
  go_wp2
  go_ret
  exact ⟨rfl, rfl⟩
theorem index64 {p : Nat} (m : Nat → Nat → Fin p) {i : Nat} (hi : i < 8) (W : World) : (Instr.index 64 (.agg (mt m)) (vi i)).run Tryd.prog W = .ok (.agg (st fun j => fv (m i j))) W :=
  match i, hi with
  | 0, _ => by kernel_rfl
  | 1, _ => by kernel_rfl
  | 2, _ => by kernel_rfl
  | 3, _ => by kernel_rfl
  | 4, _ => by kernel_rfl
  | 5, _ => by kernel_rfl
  | 6, _ => by kernel_rfl
  | 7, _ => by kernel_rfl
  | n + 8, h => absurd h (by omega)
theorem MatAt.range {p : Nat} {w : World} {b o : Nat} {m : Nat → Nat → Fin p} (h : MatAt w b o m) : w.rangeAt b o (mt m).toList := fun t v hv => by
  have ht : t < 64 := by
    have := (List.getElem?_eq_some_iff.1 hv).1
    rw [Array.length_toList, mt_size] at this
    exact this
  rw [Array.getElem?_toList, mt_get' _ ht] at hv
  injection hv with hv
  rw [← hv]
  have := h (t / 8) (t % 8) (by omega) (by omega)
  rwa [show o + t / 8 * 8 + t % 8 = o + t by omega] at this
/-- n slices that are nil, behind a name -/
def nils (n : Nat) : Array Value := madeCells #[.slice none 0 0] n
theorem nils_size (n : Nat) : (nils n).size = n := size_madeCells _ _
theorem make_rows0 (c : Nat) (hc : c * 24 ≤ 281474976710656) (w : World) :
    (Instr.makeSlice 36 (.int .i64 0) (vi c)).run Tryd.prog w = .ok (.slice (some ⟨w.heap.size, 0, none⟩) 0 c) (w.alloc (.cells (nils c) 22)) := by
  obtain ⟨i0, hi, hz0, hz1, hz2⟩ := info_parts info_ints
  have h := run_make (P := Tryd.prog) w 36 22 i0 (.slice none 0 0) Tryd.underlying36 hi hz0 .i64 .i64 (0 : Nat) c (by omega) (by omega) (by rw [hz2]; omega) (by omega)
  rw [hz1, Int.toNat_natCast, Int.toNat_natCast, Nat.mul_one] at h
  exact h
theorem ownR_made0 (w : World) (base c : Nat) (hb : base ≤ w.heap.size) (hc : c * 24 ≤ 281474976710656) : OwnR (w.alloc (.cells (nils c) 22)) base (.slice (some ⟨w.heap.size, 0, none⟩) 0 c) [] :=
  World.ownsRow_made w _ c hb (by simp only [maxLen]; omega) (by rw [nils_size, Nat.mul_one])
theorem OwnR.below_ {w w' : World} {base : Nat} {v : Value} {us : List Value} (h : OwnR w base v us) (hb : Below w.heap.size w w') : OwnR w' base v us := by
  refine ⟨h.1, ?_⟩
  rcases h.2 with h0 | ⟨g, cap, cur, hv, hg, hh, rest⟩
  · exact .inl h0
  · exact .inr ⟨g, cap, cur, hv, hg, by rw [hb.block g (World.ownsRow.lt h g (by rw [hv]; rfl)).2]; exact hh, rest⟩
def MatRel {p : Nat} [NeZero p] (w : World) (v t : Value) (wr : World) : Prop :=
  ∃ (i : Nat) (us : List Value), i ≤ 8 ∧ t = vi i ∧ OwnR wr w.heap.size v us ∧ RowsOwn wr w.heap.size us ((List.range i).map fun a => (List.range 8).map fun j => fv (cauchy p a j)) ∧ Below w.heap.size w wr
def MatIs {p : Nat} [NeZero p] (w : World) (e : Ending) (w' : World) : Prop :=
  ∃ (v : Value) (us : List Value), e = .returned v ∧ OwnR w' w.heap.size v us ∧ RowsOwn w' w.heap.size us ((List.range 8).map fun a => (List.range 8).map fun j => fv (cauchy p a j)) ∧ Below w.heap.size w w'
set_option maxRecDepth 100000 in
set_option maxHeartbeats 4000000 in
theorem matrix_any {p : Nat} [NeZero p] (s b k z : Nat) (oo : Nat → Nat → Fin p) (w : World) (G : Spg w s b k z oo) :
    Calls Tryd.prog 19 #[.pointer (some ⟨s, 0, none⟩)] w fun e w' => MatIs (p := p) w e w' := by
  have hsl := block_lt_of_cell G.c0
  have hmk : ∀ W : World, (Instr.makeSlice 36 (.int .i64 0) (.int .i64 8)).run Tryd.prog W = .ok (.slice (some ⟨W.heap.size, 0, none⟩) 0 8) (W.alloc (.cells (nils 8) 22)) := fun W => make_rows0 8 (by omega) W
  have hb0 : Below w.heap.size w (w.alloc (.cells (nils 8) 22)) := (Below.refl _ _).alloc (Nat.le_refl _) _
  have hO0 := ownR_made0 w w.heap.size 8 (Nat.le_refl _) (by omega)
  have hr0 := (G.below hb0 hsl).mat.range
  have h64 := info64 (cauchy p)
  rw [← Array.length_toList] at h64
  clear G
  go_enter Tryd.func19, Tryd.ntmps19
  go_wp2_with (refine wpList_load_mid rfl 64 _ rfl s 3 rfl (mt (cauchy p)).toList _ hr0 Tryd.underlying64 rfl h64 ?_)
  generalize World.alloc _ _ = W0 at hb0 hO0 hr0
  clear hr0 h64 hmk
  go_loopw [3, 11] (fun v t wr => MatRel (p := p) w v t wr) (fun _ t _ => 8 - (intOf t).toNat)
  case atStart => exact ⟨0, [], by omega, rfl, hO0, RowsOwn.nil _ _, hb0⟩
  case round =>
    clear hO0 hb0
    obtain ⟨i, us, hi, rfl, hown, hrows, hb⟩ := hrel
    by_cases hi8 : i < 8
    · have i1 : (0 : Int) ≤ (i : Int) := by omega
      have i2 : (i : Int) < 8 := by omega
      have hix := fun W => index64 (cauchy p) hi8 W
      obtain ⟨R, hR⟩ : ∃ R : Nat → Int, R = fun j => fv (cauchy p i j) := ⟨_, rfl⟩
      rw [← hR] at hix
      have HR := Lib.hid hR
      have HOW := Lib.hid hown
      have HRW := Lib.hid hrows
      have HB := Lib.hid hb
      clear hR hown hrows hb
      have hb5 : Below wr.heap.size wr ((wr.alloc (.cells (st fun _ => 0) 63)).setRow wr.heap.size (st R)) := below_setRow8 ((Below.refl _ _).alloc (Nat.le_refl _) _) (Nat.le_refl _) (st R)
      have hS5 : SL ((wr.alloc (.cells (st fun _ => 0) 63)).setRow wr.heap.size (st R)) (some ⟨wr.heap.size, 0, none⟩) ((List.range 8).map R) := sl_of_blk (setRow_heap _ _ _ _ _ _ (Blk.new wr _ _))
      have hc := clone_any (some ⟨wr.heap.size, 0, none⟩) 8 8 ((List.range 8).map R) (by simp) (by omega) _ hS5
      have HC := Lib.hid hc
      have HB5 := Lib.hid hb5
      clear hb5 hS5 hc
      go_wp2_with (first | (refine wpList_store_row rfl 63 _ _ rfl wr.heap.size _ rfl rfl _ _ (Blk.new wr _ _) (info8 _) (by rw [st_size]; rfl) (st_one _) ?_) | fail)
      refine (HC.out).mono ?_
      rintro _ w6 ⟨v6, rfl, ho6, hb6⟩
      have hb56 := HB5.out.trans (hb6.mono HB5.out.size)
      have hB6 := HB.out.trans (hb56.mono HB.out.size)
      have hW6 : OwnR w6 w.heap.size u3 us := OwnR.below_ HOW.out hb56
      have hR6 := HRW.out.below hb56
      obtain ⟨A6, n6, c6, rfl, hl6, hc6, hm6, hs6⟩ := ho6.shapeN
      have ho6' := ho6.more (base' := w.heap.size) (Nat.le_trans HB.out.size HB5.out.size)
      have hlus : us.length < 5864062014805 := by rw [hR6.1]; simp; omega
      have HLU := Lib.hid hlus
      have HL6 := Lib.hid hl6
      clear hlus ho6 hb6 hl6 hb56
      go_wp2_with (at_builtin; refine wpList_appR w6 A6 n6 c6 rfl _ _ rfl w.heap.size _ us rfl rfl hW6 HLU.out hB6.size ?_; intro v' w7 hg)
      have hown := hg.own
      have hb7 := hg.below hB6 hW6 (Nat.le_refl _) hB6.size
      have hr7 := (hg.rows hW6 hR6).snoc (ho6'.grown hg.grown (own_ne ho6' hW6))
      have el1 : ((List.range i).map fun a => (List.range 8).map fun j => fv (cauchy p a j)) ++ [(List.range 8).map R] = (List.range (i + 1)).map fun a => (List.range 8).map fun j => fv (cauchy p a j) := by
        rw [HR.out, List.range_succ (n := i), List.map_append]; rfl
      rw [el1] at hr7
      exact ⟨⟨i + 1, _, by omega, by go_num, hown, hr7, hb7⟩, by simp [intOf]; omega⟩
    · have ei : i = 8 := by omega
      subst ei
      go_wp2
      go_ret
      exact ⟨_, us, rfl, hown, hrows, hb⟩
end Go.Proofs.YtlcmacdeadmloaaDoor

/- The walks of Sponge.Constant and Sponge.permuted; what stirring makes. -/
set_option linter.unusedVariables false
namespace Go.Proofs.YtlcmacdeadmloaaDoor
open Go.RowKit Zp

section
variable {p : Nat} [NeZero p]
/-- what is added in a round, at a place -/
def cstT (p : Nat) [NeZero p] (r i : Nat) : Fin p := pw (el p ((8 * r + i + 1 : Nat) : Int)) 5 + el p 3
/-- a state that went through r rounds -/
def permT (k : Nat) (v : Nat → Fin p) : Nat → Nat → Fin p
  | 0 => v
  | r + 1 => ap (cauchy p) fun i => pw (permT k v r i + cstT p r i) k
/-- .. as ints -/
def permI (k : Nat) (x : Nat → Int) (r j : Nat) : Int := if r = 0 then x j else fv (permT k (fun j => el p (x j)) r j)
theorem permI_zero (k : Nat) (x : Nat → Int) : permI (p := p) k x 0 = x := by funext j; simp [permI]
theorem permI_el (k : Nat) (x : Nat → Int) (r j : Nat) : el p (permI (p := p) k x r j) = permT k (fun j => el p (x j)) r j := by
  unfold permI
  by_cases h : r = 0
  · subst h; rw [if_pos rfl]; rfl
  · rw [if_neg h, el_fv]
theorem permI_i64 (hp2 : p ≤ 2147483647) (k : Nat) {x : Nat → Int} (hx : ∀ i, I64 (x i)) (r j : Nat) : I64 (permI (p := p) k x r j) := by
  unfold permI
  split
  · exact hx j
  · exact i64_fv _ hp2
/-- .. and i places more -/
def midI (k : Nat) (x : Nat → Int) (r i j : Nat) : Int := if j < i then fv (pw (permT (p := p) k (fun j => el p (x j)) r j + cstT p r j) k) else permI (p := p) k x r j
theorem midI_zero (k : Nat) (x : Nat → Int) (r : Nat) : midI (p := p) k x r 0 = permI (p := p) k x r := by funext j; simp [midI]
theorem midI_at (k : Nat) (x : Nat → Int) (r i : Nat) : midI (p := p) k x r i i = permI (p := p) k x r i := by simp [midI]
theorem midI_step (k : Nat) (x : Nat → Int) (r i : Nat) : st (upd (midI (p := p) k x r i) i (fv (pw (permT (p := p) k (fun j => el p (x j)) r i + cstT p r i) k))) = st (midI (p := p) k x r (i + 1)) := st_congr fun j _ => by
  unfold upd midI
  by_cases h : j = i
  · subst h; rw [if_pos rfl, if_pos (by omega)]
  · rw [if_neg h]
    by_cases h1 : j < i
    · rw [if_pos h1, if_pos (by omega)]
    · rw [if_neg h1, if_neg (by omega)]
theorem midI_i64 (hp2 : p ≤ 2147483647) (k : Nat) {x : Nat → Int} (hx : ∀ i, I64 (x i)) (r i j : Nat) : I64 (midI (p := p) k x r i j) := by
  unfold midI
  split
  · exact i64_fv _ hp2
  · exact permI_i64 hp2 k hx r j
theorem midI_done (k : Nat) (x : Nat → Int) (r : Nat) : st (fun a => fv (ap (cauchy p) (fun j => el p (midI (p := p) k x r 8 j)) a)) = st (permI (p := p) k x (r + 1)) := st_congr fun a _ => by
  unfold permI
  rw [if_neg (by omega)]
  show fv (ap (cauchy p) _ a) = fv (ap (cauchy p) _ a)
  congr 1
  refine ap_congr (fun _ _ => rfl) fun j hj => ?_
  unfold midI
  rw [if_pos hj, el_fv]
theorem zpw_nat (a : Fin p) (n : Nat) : zpw a (n : Int) = pw a n := by unfold zpw; rw [if_pos (by omega), Int.toNat_natCast]
theorem zpw_five (a : Fin p) : zpw a 5 = pw a 5 := zpw_nat a 5
end
/-- any place of any round -/
def cstI (p : Nat) [NeZero p] (r i : Int) : Int := if 0 ≤ r ∧ r < 8 ∧ 0 ≤ i ∧ i < 8 then fv (cstT p r.toNat i.toNat) else 0
theorem cstI_in (p : Nat) [NeZero p] {r i : Nat} (hr : r < 8) (hi : i < 8) : cstI p r i = fv (cstT p r i) := by
  unfold cstI; rw [if_pos (by omega), Int.toNat_natCast, Int.toNat_natCast]
set_option maxRecDepth 100000 in
set_option maxHeartbeats 2000000 in
theorem const_any (p b s : Nat) [NeZero p] (hp1 : 2 ≤ p) (hp2 : p ≤ 2147483647) (r i : Int) (hr : I64 r) (hi : I64 i) (w : World) (hs0 : w.cell? ⟨s, 0, none⟩ = some (.pointer (some ⟨b, 0, none⟩))) (hcb : w.cell? ⟨b, 0, none⟩ = some (vi p)) :
    Calls Tryd.prog 15 #[.pointer (some ⟨s, 0, none⟩), vi r, vi i] w fun e w' => e = .returned (vi (cstI p r i)) ∧ ∃ n, w' = w.drewN n := by
  by_cases h : 0 ≤ r ∧ r < 8 ∧ 0 ≤ i ∧ i < 8
  · obtain ⟨r1, r2, i1, i2⟩ := h
    have e1 : cstI p r i = fv (pw (el p (8 * r + i + 1)) 5 + el p 3) := by
      unfold cstI cstT; rw [if_pos ⟨r1, r2, i1, i2⟩]; congr 4; omega
    rw [e1]
    have hpow := fun W hc => pow_any p hp1 hp2 b (8 * r + i + 1) 5 (by constructor <;> omega) (by constructor <;> omega) W hc
    rw [zpw_five] at hpow
    obtain ⟨T, hT⟩ : ∃ T, T = pw (el p (8 * r + i + 1)) 5 := ⟨_, rfl⟩
    rw [← hT] at hpow ⊢
    have hadd := fun W hc => add_any p hp2 b (fv T) 3 (i64_fv _ hp2) (by constructor <;> omega) W hc
    rw [el_fv] at hadd
    have HP := Lib.hid hpow
    have HA := Lib.hid hadd
    obtain ⟨hr1, hr2⟩ := hr
    obtain ⟨hi1, hi2⟩ := hi
    clear hpow hadd hT e1
    go_enter Tryd.func15, Tryd.ntmps15
    go_wp2
    go_quiet (first | (go_at_call 43; exact Calls.quiet_of (HP.out _ (by assumption))) | (go_at_call 42; exact Calls.quiet_of (HA.out _ (by assumption))))
    go_wp2
    go_ret
    exact ⟨rfl, _, rfl⟩
  · have e1 : cstI p r i = 0 := by unfold cstI; rw [if_neg h]
    rw [e1]
    obtain ⟨hr1, hr2⟩ := hr
    obtain ⟨hi1, hi2⟩ := hi
    rcases (show r < 0 ∨ (0 ≤ r ∧ 8 ≤ r) ∨ (0 ≤ r ∧ r < 8 ∧ i < 0) ∨ (0 ≤ r ∧ r < 8 ∧ 0 ≤ i ∧ 8 ≤ i) by omega) with h1 | ⟨h1, h2⟩ | ⟨h1, h2, h3⟩ | ⟨h1, h2, h3, h4⟩
    all_goals
      clear h e1
      go_enter Tryd.func15, Tryd.ntmps15
      go_wp2
      go_ret
      exact ⟨rfl, 0, rfl⟩
def PermRel {p : Nat} [NeZero p] (k : Nat) (x : Nat → Int) (w : World) (t : Value) (wr : World) : Prop :=
  ∃ r : Nat, r ≤ 8 ∧ t = vi r ∧ Blk wr w.heap.size 63 (st (permI (p := p) k x r)) ∧ Blk wr (w.heap.size + 1) 63 (st fun _ => 0) ∧ Below w.heap.size w wr
def PermIn {p : Nat} [NeZero p] (k : Nat) (x : Nat → Int) (w : World) (r : Nat) (t : Value) (wr : World) : Prop :=
  ∃ i : Nat, i ≤ 8 ∧ t = vi i ∧ Blk wr w.heap.size 63 (st (midI (p := p) k x r i)) ∧ Blk wr (w.heap.size + 1) 63 (st fun _ => 0) ∧ Below w.heap.size w wr
set_option maxRecDepth 100000 in
set_option maxHeartbeats 4000000 in
theorem permuted_any (p S b s k z : Nat) [NeZero p] (oo : Nat → Nat → Fin p) (x : Nat → Int) (hx : ∀ i, I64 (x i)) (w : World) (F : Fld w S b p) (G : Spg w s b k z oo) :
    Calls Tryd.prog 48 #[.pointer (some ⟨s, 0, none⟩), .agg (st x)] w fun e w' => e = .returned (.agg (st fun i => fv (permT (p := p) k (fun j => el p (x j)) 8 i))) ∧ Below w.heap.size w w' := by
  have hp1 := F.two
  have hp2 := F.max
  have hsl := block_lt_of_cell G.c0
  have hb1 : Below w.heap.size w (w.alloc (.cells (st x) 63)) := (Below.refl _ _).alloc (Nat.le_refl _) _
  have hb2 := hb1.alloc hb1.size (.cells (st fun _ => 0) 63)
  have hB0 := (Blk.new w 63 (st x)).alloc (.cells (st fun _ => 0) 63)
  have hB1 := Blk.new (w.alloc (.cells (st x) 63)) 63 (st fun _ => 0)
  rw [World.size_alloc] at hB1
  have hkk : (k : Int) ≤ 2147483647 := by have := G.kp; omega
  have hmx : Tryd.prog.follows .mixedOrders = true := by kernel_rfl
  go_enter Tryd.func48, Tryd.ntmps48
  go_wp2
  go_loopw [7] (fun t wr => PermRel (p := p) k x w t wr) (fun t _ => 8 - (intOf t).toNat)
  case atStart => exact ⟨0, by omega, rfl, by rw [permI_zero]; exact hB0, hB1, hb2⟩
  case round =>
    obtain ⟨r, hr, rfl, h0, h1, hb⟩ := hrel
    clear hB0 hB1 hb1 hb2
    by_cases hr8 : r < 8
    · have r1 : (0 : Int) ≤ (r : Int) := by omega
      have r2 : (r : Int) < 8 := by omega
      rw [← midI_zero] at h0
      go_wp2
      go_loopw [10, 6] (fun t _ wr => PermIn (p := p) k x w r t wr) (fun t _ _ => 8 - (intOf t).toNat)
      case atStart => exact ⟨0, by omega, rfl, h0, h1, hb⟩
      case round =>
        clear h0 h1 hb
        obtain ⟨i, hi, rfl, h0, h1, hb⟩ := hrel
        by_cases hi8 : i < 8
        · have i1 : (0 : Int) ≤ (i : Int) := by omega
          have i2 : (i : Int) < 8 := by omega
          have hcr := (F.below hb F.le).c0
          have hGr := G.below hb hsl
          have hs0 := hGr.c0
          have hs1 := hGr.c1
          have cX := h0.at8 hi8
          have fX := h0.frozen i
          rw [midI_at] at cX
          have hst := midI_step (p := p) k x r i
          have hXI := permI_i64 (p := p) hp2 k hx r i
          have hXe := permI_el (p := p) k x r i
          obtain ⟨V, hV⟩ : ∃ V, V = permT (p := p) k (fun j => el p (x j)) r i := ⟨_, rfl⟩
          rw [← hV] at hst hXe
          generalize permI (p := p) k x r i = X at cX hXI hXe
          obtain ⟨C, hC⟩ : ∃ C, C = cstT p r i := ⟨_, rfl⟩
          have hcst := fun W ha hb => const_any p b s hp1 hp2 r i ⟨by omega, by omega⟩ ⟨by omega, by omega⟩ W ha hb
          rw [cstI_in p hr8 hi8, ← hC] at hcst
          obtain ⟨U, hU⟩ : ∃ U, U = V + C := ⟨_, rfl⟩
          have hadd := fun W hc => add_any p hp2 b X (fv C) hXI (i64_fv _ hp2) W hc
          rw [hXe, el_fv, ← hU] at hadd
          have hpow := fun W hc => pow_any p hp1 hp2 b (fv U) k (i64_fv _ hp2) ⟨by omega, by omega⟩ W hc
          rw [el_fv, zpw_nat] at hpow
          obtain ⟨T, hT⟩ : ∃ T, T = pw U k := ⟨_, rfl⟩
          rw [← hC, ← hU, ← hT] at hst
          rw [← hT] at hpow
          have hset := fun (W : World) (u : Fin p) (h : Blk W w.heap.size 63 (st (midI (p := p) k x r i))) => h.set8 hi8 (fv u)
          have HC := Lib.hid hcst
          have HA := Lib.hid hadd
          have HP := Lib.hid hpow
          have HST := Lib.hid hst
          have HSET := Lib.hid hset
          clear hcst hadd hpow hst hset hV hC hU hT hXI hXe hGr
          go_wp2
          refine wp_region_quiet_tail 23 hmx (by kernel_rfl) ?_
          simp only [List.take_succ_cons, List.take_zero, List.drop_succ_cons, List.drop_zero]
          repeat (quiet_step (first | (go_at_call 43; exact Calls.quiet_of (HP.out _ (by exact hcr))) | (go_at_call 42; exact Calls.quiet_of (HA.out _ (by exact hcr))) | (go_at_call 15; exact Calls.quiet_of (HC.out _ (by exact hs0) (by exact hcr)))))
          refine wpQuiet_nil ?_
          intro _ hw'
          obtain ⟨nq1, hw''⟩ := hw'
          subst hw''
          have q0 := HSET.out _ T (h0.drewN nq1)
          have q1 := (h1.drewN nq1).far (p := ⟨w.heap.size, i, none⟩) (by show w.heap.size + 1 ≠ w.heap.size; omega) (vi (fv T))
          have qb := (below_drewN hb nq1).setCell (p := ⟨w.heap.size, i, none⟩) (Nat.le_refl _) (vi (fv T))
          rw [HST.out] at q0
          go_wp2
          go_roundw
          case rel => exact ⟨i + 1, by omega, by go_num, q0, q1, qb⟩
          case measure => simp [intOf]; omega
        · have ei : i = 8 := by omega
          subst ei
          have hFr := F.below hb F.le
          have hGr := G.below hb hsl
          have hI := midI_i64 (p := p) hp2 k hx r 8
          have hdn := midI_done (p := p) k x r
          obtain ⟨X, hX⟩ : ∃ X, X = midI (p := p) k x r 8 := ⟨_, rfl⟩
          rw [← hX] at h0 hI hdn
          have x0 := h0.at8 (show 0 < 8 by omega)
          have x1 := h0.at8 (show 1 < 8 by omega)
          have x2 := h0.at8 (show 2 < 8 by omega)
          have x3 := h0.at8 (show 3 < 8 by omega)
          have x4 := h0.at8 (show 4 < 8 by omega)
          have x5 := h0.at8 (show 5 < 8 by omega)
          have x6 := h0.at8 (show 6 < 8 by omega)
          have x7 := h0.at8 (show 7 < 8 by omega)
          have HT := Lib.hid (fun n => times_any p S b s s 3 (cauchy p) X hI (wr.drewN n) (hFr.below (below_drewN (Below.refl _ _) n) hFr.le) hGr.c0 hGr.mat)
          obtain ⟨R, hR⟩ : ∃ R : Nat → Int, R = fun a => fv (ap (cauchy p) (fun j => el p (X j)) a) := ⟨_, rfl⟩
          rw [← hR] at HT hdn
          have hDN := Lib.hid hdn
          have H0 := Lib.hid h0
          have H1 := Lib.hid h1
          have HB := Lib.hid hb
          clear hdn hR hX hI hFr hGr h0 h1 hb
          go_wp2
          refine wp_region_quiet_tail 5 hmx (by kernel_rfl) ?_
          simp only [List.take_succ_cons, List.take_zero, List.drop_succ_cons, List.drop_zero]
          repeat (quiet_step (fail))
          refine wpQuiet_nil ?_
          intro _ hw'
          obtain ⟨nq1, hw''⟩ := hw'
          subst hw''
          clear x0 x1 x2 x3 x4 x5 x6 x7
          go_wp2_with (first | (go_at_call 50; refine (HT.out nq1).mono ?_; rintro _ w3 ⟨rfl, hb3⟩; have h3 := Blk.below (H0.out.drewN nq1) hb3 H0.out.lt; have HB4 := Lib.hid hb3; clear hb3) | (refine wpList_store_row rfl 63 _ _ rfl w.heap.size _ rfl rfl _ _ h3 (info8 _) (by rw [st_size, st_size]) (st_one _) ?_))
          have hBR : Blk (w3.setRow w.heap.size (st R)) w.heap.size 63 (st R) := setRow_heap _ _ _ _ _ _ h3
          have hBP : Blk (w3.setRow w.heap.size (st R)) w.heap.size 63 (st (permI (p := p) k x (r + 1))) := by rw [← hDN.out]; exact hBR
          have hB1 : Blk (w3.setRow w.heap.size (st R)) (w.heap.size + 1) 63 (st fun _ => 0) := (setRow_other w3 w.heap.size (w.heap.size + 1) (st R) (by omega)).trans (Blk.below (H1.out.drewN nq1) HB4.out H1.out.lt)
          have hBB := below_setRow8 ((below_drewN HB.out nq1).trans (HB4.out.mono (below_drewN HB.out nq1).size)) (Nat.le_refl _) (st R)
          go_roundw
          case rel => exact ⟨r + 1, by omega, by go_num, hBP, hB1, hBB⟩
          case measure => simp [intOf]; omega
    · have er : r = 8 := by omega
      have hres : st (permI (p := p) k x r) = st fun i => fv (permT (p := p) k (fun j => el p (x j)) 8 i) := st_congr fun j hj => by subst er; rfl
      rw [hres] at h0
      obtain ⟨R, hR⟩ : ∃ R : Nat → Int, R = fun i => fv (permT (p := p) k (fun j => el p (x j)) 8 i) := ⟨_, rfl⟩
      rw [← hR] at h0
      have HR := Lib.hid hR
      have t1 : ¬ (r : Int) < 8 := by omega
      clear hR er hres
      go_wp2_with (first | (refine wpList_load_row rfl 63 _ rfl w.heap.size rfl _ _ _ _ h0 Tryd.underlying63 rfl (info8 _) ?_) | (refine wpList_store_row rfl 63 _ _ rfl (w.heap.size + 1) _ rfl rfl _ _ h1 (info8 _) (by rw [st_size, st_size]) (st_one _) ?_))
      have hB1 : Blk (wr.setRow (w.heap.size + 1) (st R)) (w.heap.size + 1) 63 (st R) := setRow_heap _ _ _ _ _ _ h1
      refine bodyPost_ret (v := .agg (st R)) (results_cell_row (P := Tryd.prog) (by rfl) _ _ (w.heap.size + 1) _ _ _ _ (by rfl) hB1 Tryd.underlying63 rfl (info8 _)) rfl ⟨by rw [HR.out], below_setRow8 hb (by omega) _⟩
end Go.Proofs.YtlcmacdeadmloaaDoor

/- Walks of the reference's Add, Sub, Mul, Pow, Inv, Div. -/
set_option linter.unusedVariables false
namespace Go.Proofs.YtlcmacdeadmloaaDoor
open Go.RowKit Zp

set_option maxHeartbeats 400000 in
theorem radd_any (p : Nat) [NeZero p] (hp2 : p ≤ 2147483647) (m n : Int) (hm : I64 m) (hn : I64 n) (w : World) :
    Calls Tryd.prog 45 #[vi p, vi m, vi n] w fun e w' => e = .returned (vi (fv (el p m + el p n))) ∧ w = w' := by
  have h1 := fv_nonneg (el p m)
  have h2 := fv_lt (el p m)
  have h3 := fv_nonneg (el p n)
  have h4 := fv_lt (el p n)
  go_enter Tryd.func45, Tryd.ntmps45
  go_wp2_with (go_at_call 40; refine (rof_any p hp2 _ (by assumption) _).mono ?_; rintro e w' ⟨rfl, rfl⟩)
  go_ret
  exact ⟨ret_int (fv_add _ _).symm, rfl⟩
set_option maxHeartbeats 400000 in
theorem rmul_any (p : Nat) [NeZero p] (hp2 : p ≤ 2147483647) (m n : Int) (hm : I64 m) (hn : I64 n) (w : World) :
    Calls Tryd.prog 72 #[vi p, vi m, vi n] w fun e w' => e = .returned (vi (fv (el p m * el p n))) ∧ w = w' := by
  have h1 := fv_nonneg (el p m)
  have h2 := fv_lt (el p m)
  have h3 := fv_nonneg (el p n)
  have h4 := fv_lt (el p n)
  obtain ⟨h5, h6⟩ := mul_bd (el p m) (el p n) hp2
  go_enter Tryd.func72, Tryd.ntmps72
  go_wp2_with (go_at_call 40; refine (rof_any p hp2 _ (by assumption) _).mono ?_; rintro e w' ⟨rfl, rfl⟩)
  go_ret
  exact ⟨ret_int (fv_mul _ _).symm, rfl⟩

/-- what the loop of Pow knows -/
def RPow {p : Nat} [NeZero p] (T : Fin p) (n : Int) (a x k : Value) : Prop :=
  ∃ (j : Int) (A X : Fin p), j.natAbs ≤ n.natAbs ∧ I64 j ∧ a = vi (fv A) ∧ x = vi (fv X) ∧ k = vi j ∧ X * pw A j.natAbs = T
theorem RPow.step {p : Nat} [NeZero p] {T A X : Fin p} {n j r d : Int} (h0 : j ≠ 0) (h : X * pw A j.natAbs = T) (hj : j.natAbs ≤ n.natAbs) (hr : j.tmod 2 = r) (hd : j.tdiv 2 = d) :
    d.natAbs ≤ n.natAbs ∧ d.natAbs < j.natAbs ∧ (r = 0 → X * pw (A * A) d.natAbs = T) ∧ (r ≠ 0 → X * A * pw (A * A) d.natAbs = T) := by
  have e1 : d.natAbs = j.natAbs / 2 := by rw [← hd]; simp [Int.natAbs_tdiv]; rfl
  have e2 : r.natAbs = j.natAbs % 2 := by rw [← hr]; simp [Int.natAbs_tmod]
  have hs := pow_step A j.natAbs
  rw [← e1] at hs
  refine ⟨by omega, by omega, fun hr0 => ?_, fun hr0 => ?_⟩
  · rw [← h, hs, if_neg (by omega)]; grind
  · rw [← h, hs, if_pos (by omega)]; grind

set_option maxRecDepth 100000 in
set_option maxHeartbeats 1000000 in
theorem rpow_nn (p : Nat) [NeZero p] (hp1 : 2 ≤ p) (hp2 : p ≤ 2147483647) (m n : Int) (hm : I64 m) (hn : I64 n) (h0 : 0 ≤ n) (w : World) :
    Calls Tryd.prog 44 #[vi p, vi m, vi n] w fun e w' => e = .returned (vi (fv (pw (el p m) n.natAbs))) ∧ w = w' := by
  have h1 := fv_nonneg (el p m)
  have h2 := fv_lt (el p m)
  go_enter Tryd.func44, Tryd.ntmps44
  go_wp2_with (go_at_call 40; refine (rof_any p hp2 m hm _).mono ?_; rintro e w' ⟨rfl, rfl⟩)
  go_loop [1, 2, 7] (fun a n' x => RPow (pw (el p m) n.natAbs) n a x n') (fun _ n' _ => (intOf n').natAbs)
  case atStart => exact ⟨n, el p m, 1, Nat.le_refl _, hn, rfl, by rw [fv_one hp1], rfl, by grind⟩
  case round =>
    obtain ⟨j, A, X, hj, ij, rfl, rfl, rfl, hX⟩ := hrel
    obtain ⟨h5, h6⟩ := mul_bd X A hp2
    obtain ⟨h7, h8⟩ := mul_bd A A hp2
    have hX' := Lib.hid hX
    clear hX
    by_cases h0 : j = 0
    · subst h0
      go_wp2
      go_ret
      exact ⟨ret_int (by rw [← hX'.out]; simp only [Int.natAbs_zero, pw_zero]; congr 1; grind), rfl⟩
    · have t0 : (j != 0) = true := by rw [bne_iff_ne]; exact h0
      obtain ⟨r, hr⟩ : ∃ r, j.tmod 2 = r := ⟨_, rfl⟩
      obtain ⟨d, hd⟩ : ∃ d, j.tdiv 2 = d := ⟨_, rfl⟩
      obtain ⟨s1, s2, s3, s4⟩ := RPow.step h0 hX'.out hj hr hd
      have hnn : n.natAbs ≤ 9223372036854775808 := by obtain ⟨_, _⟩ := hn; omega
      obtain ⟨ij1, ij2⟩ := ij
      have id1 : -9223372036854775807 ≤ d := by omega
      have id2 : d ≤ 9223372036854775807 := by omega
      clear hnn
      by_cases hr0 : r = 0
      · have t1 : (r != 0) = false := by simpa using hr0
        have S := Lib.hid (s3 hr0)
        have S1 := Lib.hid s1
        have S2 := Lib.hid s2
        clear s1 s2 s3 s4 hr0 h0
        go_wp2
        go_round
        case rel => exact ⟨d, A * A, X, S1.out, ⟨by omega, id2⟩, by rw [fv_mul], rfl, rfl, S.out⟩
        case measure => exact S2.out
      · have t1 : (r != 0) = true := by rw [bne_iff_ne]; exact hr0
        have S := Lib.hid (s4 hr0)
        have S1 := Lib.hid s1
        have S2 := Lib.hid s2
        clear s1 s2 s3 s4 hr0 h0
        go_wp2
        go_round
        case rel => exact ⟨d, A * A, X * A, S1.out, ⟨by omega, id2⟩, by rw [fv_mul], by rw [fv_mul], rfl, S.out⟩
        case measure => exact S2.out

theorem rinv_any (p : Nat) [NeZero p] (hp1 : 2 ≤ p) (hp2 : p ≤ 2147483647) (m : Int) (hm : I64 m) (w : World) :
    Calls Tryd.prog 20 #[vi p, vi m] w fun e w' => e = .returned (vi (fv (Zp.inv (el p m)))) ∧ w = w' := by
  have h5 : I64 ((p : Int) - 2) := by constructor <;> omega
  have h6 : (0 : Int) ≤ (p : Int) - 2 := by omega
  have h7 : ((p : Int) - 2).natAbs = p - 2 := by omega
  have H := Lib.hid (rpow_nn p hp1 hp2 m _ hm h5 h6 w)
  rw [h7] at H
  clear h7
  go_enter Tryd.func20, Tryd.ntmps20
  go_wp2_with fail
  refine (H.out).mono ?_
  rintro e w' ⟨rfl, rfl⟩
  go_wp2
  go_ret
  exact ⟨rfl, rfl⟩

set_option maxRecDepth 100000 in
set_option maxHeartbeats 1000000 in
theorem rpow_neg (p : Nat) [NeZero p] (hp1 : 2 ≤ p) (hp2 : p ≤ 2147483647) (m n : Int) (hm : I64 m) (hn : I64 n) (hlt : n < 0) (w : World) :
    Calls Tryd.prog 44 #[vi p, vi m, vi n] w fun e w' => e = .returned (vi (fv (pw (Zp.inv (el p m)) n.natAbs))) ∧ w = w' := by
  have h1 := fv_nonneg (el p m)
  have h2 := fv_lt (el p m)
  have hi := fun w => rinv_any p hp1 hp2 (fv (el p m)) (i64_fv _ hp2) w
  simp only [el_fv] at hi
  have HI := Lib.hid hi
  clear hi
  go_enter Tryd.func44, Tryd.ntmps44
  go_wp2_with (first | (go_at_call 40; refine (rof_any p hp2 m hm _).mono ?_; rintro e w' ⟨rfl, rfl⟩) | (go_at_call 20; refine (HI.out _).mono ?_; rintro e w' ⟨rfl, rfl⟩))
  go_loop [1, 2, 7] (fun a n' x => RPow (pw (Zp.inv (el p m)) n.natAbs) n a x n') (fun _ n' _ => (intOf n').natAbs)
  case atStart => exact ⟨n, Zp.inv (el p m), 1, Nat.le_refl _, hn, rfl, by rw [fv_one hp1], rfl, by grind⟩
  case round =>
    obtain ⟨j, A, X, hj, ij, rfl, rfl, rfl, hX⟩ := hrel
    obtain ⟨h5, h6⟩ := mul_bd X A hp2
    obtain ⟨h7, h8⟩ := mul_bd A A hp2
    have hX' := Lib.hid hX
    clear hX
    by_cases h0 : j = 0
    · subst h0
      go_wp2
      go_ret
      exact ⟨ret_int (by rw [← hX'.out]; simp only [Int.natAbs_zero, pw_zero]; congr 1; grind), rfl⟩
    · have t0 : (j != 0) = true := by rw [bne_iff_ne]; exact h0
      obtain ⟨r, hr⟩ : ∃ r, j.tmod 2 = r := ⟨_, rfl⟩
      obtain ⟨d, hd⟩ : ∃ d, j.tdiv 2 = d := ⟨_, rfl⟩
      obtain ⟨s1, s2, s3, s4⟩ := RPow.step h0 hX'.out hj hr hd
      have hnn : n.natAbs ≤ 9223372036854775808 := by obtain ⟨_, _⟩ := hn; omega
      obtain ⟨ij1, ij2⟩ := ij
      have id1 : -9223372036854775807 ≤ d := by omega
      have id2 : d ≤ 9223372036854775807 := by omega
      clear hnn
      by_cases hr0 : r = 0
      · have t1 : (r != 0) = false := by simpa using hr0
        have S := Lib.hid (s3 hr0)
        have S1 := Lib.hid s1
        have S2 := Lib.hid s2
        clear s1 s2 s3 s4 hr0 h0
        go_wp2
        go_round
        case rel => exact ⟨d, A * A, X, S1.out, ⟨by omega, id2⟩, by rw [fv_mul], rfl, rfl, S.out⟩
        case measure => exact S2.out
      · have t1 : (r != 0) = true := by rw [bne_iff_ne]; exact hr0
        have S := Lib.hid (s4 hr0)
        have S1 := Lib.hid s1
        have S2 := Lib.hid s2
        clear s1 s2 s3 s4 hr0 h0
        go_wp2
        go_round
        case rel => exact ⟨d, A * A, X * A, S1.out, ⟨by omega, id2⟩, by rw [fv_mul], by rw [fv_mul], rfl, S.out⟩
        case measure => exact S2.out

theorem rpow_any (p : Nat) [NeZero p] (hp1 : 2 ≤ p) (hp2 : p ≤ 2147483647) (m n : Int) (hm : I64 m) (hn : I64 n) (w : World) :
    Calls Tryd.prog 44 #[vi p, vi m, vi n] w fun e w' => e = .returned (vi (fv (zpw (el p m) n))) ∧ w = w' := by
  by_cases h0 : 0 ≤ n
  · have h := rpow_nn p hp1 hp2 m n hm hn h0 w
    rw [zpw, if_pos h0, show n.toNat = n.natAbs by omega]
    exact h
  · have h := rpow_neg p hp1 hp2 m n hm hn (by omega) w
    rw [zpw, if_neg h0, show (-n).toNat = n.natAbs by omega]
    exact h
theorem rdiv_any (p : Nat) [NeZero p] (hp1 : 2 ≤ p) (hp2 : p ≤ 2147483647) (m n : Int) (hm : I64 m) (hn : I64 n) (w : World) :
    Calls Tryd.prog 53 #[vi p, vi m, vi n] w fun e w' => e = .returned (vi (fv (el p m * Zp.inv (el p n)))) ∧ w = w' := by
  have h := fun w => rmul_any p hp2 m (fv (Zp.inv (el p n))) hm (i64_fv _ hp2) w
  simp only [el_fv] at h
  have H := Lib.hid h
  clear h
  go_enter Tryd.func53, Tryd.ntmps53
  go_wp2_with (first | (go_at_call 20; refine (rinv_any p hp1 hp2 n hn _).mono ?_; rintro e w' ⟨rfl, rfl⟩) | (go_at_call 72; refine (H.out _).mono ?_; rintro e w' ⟨rfl, rfl⟩))
  go_ret
  exact ⟨rfl, rfl⟩
end Go.Proofs.YtlcmacdeadmloaaDoor

/- ref3: Power, Constant, Mix, Permute. -/
set_option linter.unusedVariables false
namespace Go.Proofs.YtlcmacdeadmloaaDoor
open Go.RowKit Zp

/-- no divisor from 2 to i - 1 in common -/
def NoCom (n m i : Nat) : Prop := ∀ j, 2 ≤ j → j < i → ¬ (j ∣ n ∧ j ∣ m)
theorem NoCom.step {n m i : Nat} (h : NoCom n m i) (hi : ¬ (i ∣ n ∧ i ∣ m)) : NoCom n m (i + 1) := fun j h2 hj => by
  by_cases e : j = i
  · subst e; exact hi
  · exact h j h2 (by omega)
theorem NoCom.gcd {n m : Nat} (hn : 0 < n) (h : NoCom n m (n + 1)) : Nat.gcd n m = 1 := by
  have h1 := Nat.gcd_dvd_left n m
  have h2 := Nat.gcd_dvd_right n m
  have h3 := Nat.le_of_dvd hn h1
  have h4 := Nat.gcd_pos_of_pos_left m hn
  false_or_by_contra
  rename_i hne
  exact h _ (by omega) (by omega) ⟨h1, h2⟩
theorem com_gcd {n m i : Nat} (h2 : 2 ≤ i) (h : i ∣ n ∧ i ∣ m) : Nat.gcd n m ≠ 1 := fun e => by
  have := Nat.dvd_gcd h.1 h.2
  rw [e] at this
  have := Nat.le_of_dvd (by omega) this
  omega
def comB (n m : Nat) : Bool := decide (Nat.gcd n m ≠ 1)
set_option maxHeartbeats 2000000 in
theorem rcommon_any (n m : Nat) (hn : 0 < n) (hn2 : n ≤ 2147483647) (hm2 : m ≤ 2147483647) (w : World) :
    Calls Tryd.prog 41 #[vi n, vi m] w fun e w' => e = .returned (.bool (comB n m)) ∧ w = w' := by
  go_enter Tryd.func41, Tryd.ntmps41
  go_wp2
  go_loop [5] (fun t => ∃ i : Nat, 2 ≤ i ∧ (i ≤ n + 1 ∨ i = 2) ∧ t = vi i ∧ NoCom n m i) (fun t => n + 2 - (intOf t).toNat)
  case atStart => exact ⟨2, by omega, .inr rfl, rfl, fun j h1 h2 => by omega⟩
  case round =>
    obtain ⟨i, h2, hi, rfl, hno⟩ := hrel
    have HN := Lib.hid hno
    clear hno
    have i0 : (i : Int) ≠ 0 := by omega
    have i3 : (i : Int) ≤ 2147483648 := by omega
    have en : (n : Int).tmod (i : Int) = ((n % i : Nat) : Int) := by rw [Int.tmod_eq_emod_of_nonneg (by omega)]; omega
    have em : (m : Int).tmod (i : Int) = ((m % i : Nat) : Int) := by rw [Int.tmod_eq_emod_of_nonneg (by omega)]; omega
    by_cases hle : i ≤ n
    · have t1 : (i : Int) ≤ (n : Int) := by omega
      by_cases h1 : i ∣ n
      · have e1 : (((n % i : Nat) : Int) == 0) = true := by rw [Nat.mod_eq_zero_of_dvd h1]; rfl
        by_cases h3 : i ∣ m
        · have e2 : (((m % i : Nat) : Int) == 0) = true := by rw [Nat.mod_eq_zero_of_dvd h3]; rfl
          have hr : comB n m = true := decide_eq_true (com_gcd h2 ⟨h1, h3⟩)
          have HR := Lib.hid hr
          generalize ((n % i : Nat) : Int) = a at en e1
          generalize ((m % i : Nat) : Int) = b at em e2
          clear hr h1 h3 hi
          go_wp2
          go_ret
          exact ⟨ret_bool HR.out.symm, rfl⟩
        · have e2 : (((m % i : Nat) : Int) == 0) = false := by
            rw [beq_eq_false_iff_ne]
            intro e
            exact h3 (Nat.dvd_of_mod_eq_zero (by omega))
          have hs := HN.out.step (fun h => h3 h.2)
          have HS := Lib.hid hs
          generalize ((n % i : Nat) : Int) = a at en e1
          generalize ((m % i : Nat) : Int) = b at em e2
          clear hs h1 h3 hi HN
          go_wp2
          go_round
          case rel => exact ⟨i + 1, by omega, by omega, by go_num, HS.out⟩
          case measure => simp [intOf]; omega
      · have e1 : (((n % i : Nat) : Int) == 0) = false := by
          rw [beq_eq_false_iff_ne]
          intro e
          exact h1 (Nat.dvd_of_mod_eq_zero (by omega))
        have hs := HN.out.step (fun h => h1 h.1)
        have HS := Lib.hid hs
        generalize ((n % i : Nat) : Int) = a at en e1
        clear hs h1 hi HN em
        go_wp2
        go_round
        case rel => exact ⟨i + 1, by omega, by omega, by go_num, HS.out⟩
        case measure => simp [intOf]; omega
    · have t1 : ¬ (i : Int) ≤ (n : Int) := by omega
      have hr : comB n m = false := by
        refine decide_eq_false fun hne => hne ?_
        refine NoCom.gcd hn fun j h3 h4 => ?_
        exact HN.out j h3 (by omega)
      have HR := Lib.hid hr
      clear hr en em hle
      go_wp2
      go_ret
      exact ⟨ret_bool HR.out.symm, rfl⟩
set_option maxHeartbeats 2000000 in
theorem rpower_is (p k : Nat) (hp : 3 ≤ p) (hp2 : p ≤ 2147483647) (k2 : 2 ≤ k) (kp : k < p) (least : ∀ j, 2 ≤ j → j < k → Nat.gcd j (p - 1) ≠ 1) (cop : Nat.gcd k (p - 1) = 1) (w : World) :
    Calls Tryd.prog 14 #[vi p] w fun e w' => e = .returned (vi k) ∧ w = w' := by
  have hc := fun (n : Nat) (h1 : 0 < n) (h2 : n ≤ 2147483647) => rcommon_any n (p - 1) h1 h2 (by omega) w
  have ep : ((p - 1 : Nat) : Int) = (p : Int) - 1 := by omega
  rw [ep] at hc
  have HC := Lib.hid hc
  have HL := Lib.hid least
  have HO := Lib.hid cop
  clear hc ep least cop
  go_enter Tryd.func14, Tryd.ntmps14
  go_wp2
  go_loop [3, 4] (fun t _ => ∃ n : Nat, 2 ≤ n ∧ n ≤ k ∧ t = vi n) (fun t _ => k - (intOf t).toNat)
  case atStart => exact ⟨2, by omega, by omega, rfl⟩
  case round =>
    obtain ⟨n, h2, hk, rfl⟩ := hrel
    have t1 : (n : Int) < (p : Int) := by omega
    have HN := Lib.hid (HC.out n (by omega) (by omega))
    by_cases e : n = k
    · have hb : comB n (p - 1) = false := decide_eq_false fun h => h (by rw [e]; exact HO.out)
      rw [hb] at HN
      subst e
      go_wp2_with fail
      refine (HN.out).mono ?_
      rintro _ _ ⟨rfl, rfl⟩
      go_wp2
      go_ret
      exact ⟨rfl, rfl⟩
    · have hb : comB n (p - 1) = true := decide_eq_true (HL.out n h2 (by omega))
      rw [hb] at HN
      go_wp2_with fail
      refine (HN.out).mono ?_
      rintro _ _ ⟨rfl, rfl⟩
      go_wp2
      go_round
      case rel => exact ⟨n + 1, by omega, by omega, by go_num⟩
      case measure => simp [intOf]; omega
set_option maxRecDepth 100000 in
set_option maxHeartbeats 2000000 in
theorem rconst_any (p : Nat) [NeZero p] (hp1 : 2 ≤ p) (hp2 : p ≤ 2147483647) (r i : Int) (hr : I64 r) (hi : I64 i) (w : World) :
    Calls Tryd.prog 16 #[vi p, vi r, vi i] w fun e w' => e = .returned (vi (cstI p r i)) ∧ w = w' := by
  by_cases h : 0 ≤ r ∧ r < 8 ∧ 0 ≤ i ∧ i < 8
  · obtain ⟨r1, r2, i1, i2⟩ := h
    have e1 : cstI p r i = fv (pw (el p (8 * r + i + 1)) 5 + el p 3) := by
      unfold cstI cstT; rw [if_pos ⟨r1, r2, i1, i2⟩]; congr 4; omega
    rw [e1]
    have hpow := rpow_any p hp1 hp2 (8 * r + i + 1) 5 (by constructor <;> omega) (by constructor <;> omega) w
    rw [zpw_five] at hpow
    obtain ⟨T, hT⟩ : ∃ T, T = pw (el p (8 * r + i + 1)) 5 := ⟨_, rfl⟩
    rw [← hT] at hpow ⊢
    have hadd := radd_any p hp2 (fv T) 3 (i64_fv _ hp2) (by constructor <;> omega) w
    rw [el_fv] at hadd
    have HP := Lib.hid hpow
    have HA := Lib.hid hadd
    obtain ⟨hr1, hr2⟩ := hr
    obtain ⟨hi1, hi2⟩ := hi
    clear hpow hadd hT e1
    go_enter Tryd.func16, Tryd.ntmps16
    go_wp2_with (refine (HP.out).mono ?_; rintro _ _ ⟨rfl, rfl⟩; clear HP)
    go_wp2_with (refine (HA.out).mono ?_; rintro _ _ ⟨rfl, rfl⟩; clear HA)
    go_ret
    exact ⟨rfl, rfl⟩
  · have e1 : cstI p r i = 0 := by unfold cstI; rw [if_neg h]
    rw [e1]
    obtain ⟨hr1, hr2⟩ := hr
    obtain ⟨hi1, hi2⟩ := hi
    rcases (show r < 0 ∨ (0 ≤ r ∧ 8 ≤ r) ∨ (0 ≤ r ∧ r < 8 ∧ i < 0) ∨ (0 ≤ r ∧ r < 8 ∧ 0 ≤ i ∧ 8 ≤ i) by omega) with h1 | ⟨h1, h2⟩ | ⟨h1, h2, h3⟩ | ⟨h1, h2, h3, h4⟩
    all_goals
      clear h e1
      go_enter Tryd.func16, Tryd.ntmps16
      go_wp2
      go_ret
      exact ⟨rfl, rfl⟩
def RMixRel {p : Nat} [NeZero p] (x : Nat → Int) (w : World) (v t : Value) (wr : World) : Prop :=
  ∃ i : Nat, i ≤ 8 ∧ t = vi i ∧ Own wr w.heap.size v ((List.range i).map fun i => fv (ap (cauchy p) (fun j => el p (x j)) i)) ∧ Below w.heap.size w wr
set_option maxRecDepth 100000 in
set_option maxHeartbeats 2000000 in
theorem rmix_any (p : Nat) [NeZero p] (hp1 : 2 ≤ p) (hp2 : p ≤ 2147483647) (ad : Addr) (n c : Nat) (h8 : 8 ≤ n) (hn : n ≤ 9223372036854775807) (x : Nat → Int) (hx : ∀ i, I64 (x i)) (w : World) (hl : ad.block < w.heap.size) (hs : ∀ i, i < 8 → w.cell? (ad.add i) = some (vi (x i))) :
    Calls Tryd.prog 25 #[vi p, .slice (some ad) n c] w fun e w' => Made ((List.range 8).map fun i => fv (ap (cauchy p) (fun j => el p (x j)) i)) w e w' := by
  have HS := Lib.hid hs
  clear hs
  go_enter Tryd.func25, Tryd.ntmps25
  go_wp2
  go_loopw [5, 6, 7, 8, 9] (fun v t _ _ _ wr => RMixRel (p := p) x w v t wr) (fun _ t _ _ _ _ => 8 - (intOf t).toNat)
  case atStart => exact ⟨0, by omega, rfl, World.ownsRow_nil _ _ _ _, Below.refl _ _⟩
  case round =>
    obtain ⟨i, hi, rfl, hown, hb⟩ := hrel
    by_cases hi8 : i < 8
    · have i1 : (0 : Int) ≤ (i : Int) := by omega
      have i2 : (i : Int) < 8 := by omega
      have HOW := Lib.hid hown
      have HB := Lib.hid hb
      have hsr : ∀ j, j < 8 → wr.cell? (ad.add j) = some (vi (x j)) := fun j hj => (hb.cell (p := ad.add j) (by unfold Addr.add; split <;> exact hl)).trans (HS.out j hj)
      have HSR := Lib.hid hsr
      clear hown hb hsr
      go_wp2
      go_loop [7, 8, 9] (fun s t _ => ∃ j : Nat, j ≤ 8 ∧ t = vi j ∧ s = vi (fv (sumT j fun l => cauchy p i l * el p (x l)))) (fun _ t _ => 8 - (intOf t).toNat)
      case atStart => exact ⟨0, by omega, rfl, by rw [sumT, fv_zero]⟩
      case round =>
        obtain ⟨j, hj, rfl, rfl⟩ := hrel
        by_cases hj8 : j < 8
        · have j1 : (0 : Int) ≤ (j : Int) := by omega
          have j2 : (j : Int) < (n : Int) := by omega
          have j3 : (j : Int) < 8 := by omega
          have hc := HSR.out j hj8
          have hxj := hx j
          have hd := rdiv_any p hp1 hp2 (x j) ((i : Int) + j + 8) hxj ⟨by omega, by omega⟩ wr
          have ec : Zp.inv (el p ((i : Int) + j + 8)) = cauchy p i j := by unfold cauchy; congr 2
          rw [ec] at hd
          have hs := sumT_succ (p := p) j (fun l => cauchy p i l * el p (x l))
          obtain ⟨D, hD⟩ : ∃ D, D = el p (x j) * cauchy p i j := ⟨_, rfl⟩
          rw [← hD] at hd
          have e2 : cauchy p i j * el p (x j) = D := by rw [hD]; grind
          rw [e2] at hs
          obtain ⟨A, hA⟩ : ∃ A, A = sumT j fun l => cauchy p i l * el p (x l) := ⟨_, rfl⟩
          rw [← hA] at hs ⊢
          have a1 := fv_nonneg A
          have a2 := fv_lt A
          have d1 := fv_nonneg D
          have d2 := fv_lt D
          have em : (fv A + fv D).tmod (p : Int) = fv (A + D) := by
            rw [fv_add]
            exact Int.tmod_eq_emod_of_nonneg (by omega)
          have p0 : (p : Int) ≠ 0 := by omega
          have HD := Lib.hid hd
          have HH := Lib.hid hs
          clear hd hs hD e2 hA ec hxj
          go_wp2_with fail
          refine (HD.out).mono ?_
          rintro _ _ ⟨rfl, rfl⟩
          go_wp2
          go_round
          case rel => exact ⟨j + 1, by omega, by go_num, by rw [HH.out]⟩
          case measure => simp [intOf]; omega
        · have ej : j = 8 := by omega
          subst ej
          have er : (List.range (i + 1)).map (fun i => fv (ap (cauchy p) (fun j => el p (x j)) i)) = ((List.range i).map fun i => fv (ap (cauchy p) (fun j => el p (x j)) i)) ++ [fv (sumT 8 fun l => cauchy p i l * el p (x l))] := by
            rw [List.range_succ, List.map_append]; rfl
          have HE := Lib.hid er
          generalize fv (sumT 8 fun l => cauchy p i l * el p (x l)) = V at HE
          have hlk : ((List.range i).map fun i => fv (ap (cauchy p) (fun j => el p (x j)) i)).length < 17592186044416 := by simp; omega
          have HLK := Lib.hid hlk
          clear er hlk
          go_wp2_with (at_builtin; refine wpList_app1 wr V rfl _ _ rfl w.heap.size _ _ rfl rfl HOW.out HLK.out HB.out.size ?_; intro v' w1 hg)
          have ho := hg.own
          have hb := hg.below HB.out HOW.out (Nat.le_refl _) HB.out.size
          rw [← HE.out] at ho
          clear hg
          exact ⟨⟨i + 1, by omega, by go_num, ho, hb⟩, by simp [intOf]; omega⟩
    · have ei : i = 8 := by omega
      subst ei
      go_wp2
      go_ret
      exact ⟨_, rfl, hown, hb⟩
section
variable {p : Nat} [NeZero p] {w : World} {s b k z : Nat} {oo : Nat → Nat → Fin p}
/-- the power is below p -/
theorem Spg.klt (G : Spg w s b k z oo) (h3 : 4 ≤ p) : k < p := by
  have h1 : k ≤ p - 2 := by
    rcases Nat.lt_or_ge (p - 2) k with h | h
    · refine absurd ?_ (G.least (p - 2) (by omega) h)
      have h2 : Nat.gcd (p - 2) (p - 1) ∣ 1 := by
        have a1 := Nat.gcd_dvd_left (p - 2) (p - 1)
        have a2 := Nat.gcd_dvd_right (p - 2) (p - 1)
        have := Nat.dvd_sub a2 a1
        rwa [show p - 1 - (p - 2) = 1 by omega] at this
      exact Nat.dvd_one.1 h2
    · exact h
  omega
end
theorem set_map8 (f : Nat → Int) {i : Nat} (hi : i < 8) (y : Int) : ((List.range 8).map f).set i y = (List.range 8).map (upd f i y) := by
  apply List.ext_getElem?
  intro j
  rw [List.getElem?_set]
  by_cases hj : j < 8
  · by_cases e : i = j
    · subst e; simp [hi, upd]
    · rw [if_neg e]; simp [hj, upd]; intro h; exact absurd h.symm e
  · rw [if_neg (by omega)]
    rw [List.getElem?_eq_none (by simp; omega), List.getElem?_eq_none (by simp; omega)]
/-- a state on its way, i places of a round are over -/
def midR {p : Nat} [NeZero p] (k : Nat) (v : Nat → Fin p) (r i j : Nat) : Int := if j < i then fv (pw (permT k v r j + cstT p r j) k) else fv (permT k v r j)
theorem midR_step {p : Nat} [NeZero p] (k : Nat) (v : Nat → Fin p) (r : Nat) {i : Nat} (hi : i < 8) : ((List.range 8).map (midR k v r i)).set i (fv (pw (permT k v r i + cstT p r i) k)) = (List.range 8).map (midR k v r (i + 1)) := by
  rw [set_map8 _ hi]
  congr 1
  funext j
  unfold upd midR
  by_cases h : j = i
  · subst h; rw [if_pos rfl, if_pos (by omega)]
  · rw [if_neg h]
    by_cases h1 : j < i
    · rw [if_pos h1, if_pos (by omega)]
    · rw [if_neg h1, if_neg (by omega)]
theorem midR_done {p : Nat} [NeZero p] (k : Nat) (v : Nat → Fin p) (r : Nat) : ((List.range 8).map fun a => fv (ap (cauchy p) (fun j => el p (((List.range 8).map (midR k v r 8)).getD j 0)) a)) = (List.range 8).map fun j => fv (permT k v (r + 1) j) := by
  apply List.map_congr_left
  intro a _
  show fv (ap (cauchy p) _ a) = fv (ap (cauchy p) _ a)
  congr 1
  refine ap_congr (fun _ _ => rfl) fun j hj => ?_
  rw [getD_map8 _ hj]
  unfold midR
  rw [if_pos hj, el_fv]
theorem i64_midR {p : Nat} [NeZero p] (hm : p ≤ 2147483647) (k : Nat) (v : Nat → Fin p) (r i j : Nat) : I64 (midR k v r i j) := by
  unfold midR
  split <;> exact i64_fv _ hm
def RPermRel {p : Nat} [NeZero p] (k : Nat) (u : Nat → Fin p) (w : World) (v t : Value) (wr : World) : Prop :=
  ∃ r : Nat, r ≤ 8 ∧ t = vi r ∧ Own wr w.heap.size v ((List.range 8).map fun j => fv (permT k u r j)) ∧ Below w.heap.size w wr
def RPermIn {p : Nat} [NeZero p] (k : Nat) (u : Nat → Fin p) (w : World) (r : Nat) (v t : Value) (wr : World) : Prop :=
  ∃ i : Nat, i ≤ 8 ∧ t = vi i ∧ Own wr w.heap.size v ((List.range 8).map (midR k u r i)) ∧ Below w.heap.size w wr
set_option maxRecDepth 100000 in
set_option maxHeartbeats 4000000 in
theorem rpermute_any (p k : Nat) [NeZero p] (hp1 : 3 ≤ p) (hp2 : p ≤ 2147483647) (k2 : 2 ≤ k) (kp : k < p) (least : ∀ j, 2 ≤ j → j < k → Nat.gcd j (p - 1) ≠ 1) (cop : Nat.gcd k (p - 1) = 1) (A : Option Addr) (c : Nat) (xs : List Int) (hx8 : xs.length = 8) (hxI : ∀ x ∈ xs, I64 x) (w : World) (hs : SL w A xs) :
    Calls Tryd.prog 24 #[vi p, .slice A 8 c] w fun e w' => Made ((List.range 8).map fun i => fv (permT (p := p) k (fun j => el p (xs.getD j 0)) 8 i)) w e w' := by
  have hall := rall_any p hp2 A c xs hxI (by omega) w hs
  rw [hx8] at hall
  obtain ⟨u, hu⟩ : ∃ u : Nat → Fin p, u = fun j => el p (xs.getD j 0) := ⟨_, rfl⟩
  rw [← all8 hx8 (R := u) (fun j _ => by rw [hu])] at hall
  rw [← hu]
  have HA := Lib.hid hall
  have HPW := Lib.hid (fun W => rpower_is p k hp1 hp2 k2 kp least cop W)
  have hpp : 2 ≤ p := by omega
  clear hall hu hs hxI hx8 least cop
  go_enter Tryd.func24, Tryd.ntmps24
  go_wp2_with fail
  refine (HA.out).mono ?_
  rintro _ w1 ⟨v, rfl, ho1, hb1⟩
  go_wp2_with fail
  refine (HPW.out _).mono ?_
  rintro _ _ ⟨rfl, rfl⟩
  go_wp2
  go_loopw [5, 7, 8, 9] (fun v t _ _ wr => RPermRel k u w v t wr) (fun _ t _ _ _ => 8 - (intOf t).toNat)
  case atStart => exact ⟨0, by omega, rfl, ho1, hb1⟩
  case round =>
    clear ho1 hb1
    obtain ⟨r, hr, rfl, ho, hb⟩ := hrel
    by_cases hr8 : r < 8
    · have r1 : (0 : Int) ≤ (r : Int) := by omega
      have r2 : (r : Int) < 8 := by omega
      have e0 : ((List.range 8).map fun j => fv (permT k u r j)) = (List.range 8).map (midR k u r 0) := by
        apply List.map_congr_left; intro j _; unfold midR; rw [if_neg (by omega)]
      rw [e0] at ho
      clear e0
      obtain ⟨g, cap, ev, hg1, hg2⟩ := ho.block (by simp)
      rw [show ((List.range 8).map (midR k u r 0)).length = 8 by simp] at ev
      subst ev
      go_wp2
      go_loopw [8, 9] (fun t _ wr => RPermIn k u w r (.slice (some ⟨g, 0, none⟩) 8 cap) t wr) (fun t _ _ => 8 - (intOf t).toNat)
      case atStart => exact ⟨0, by omega, rfl, ho, hb⟩
      case round =>
        clear ho hb hg2
        obtain ⟨i, hi, rfl, ho, hb⟩ := hrel
        by_cases hi8 : i < 8
        · have i1 : (0 : Int) ≤ (i : Int) := by omega
          have i2 : (i : Int) < 8 := by omega
          have hst := midR_step k u r hi8
          have hlen8 : 8 = ((List.range 8).map (midR k u r i)).length := by simp
          have hcX := ho.at_ hlen8 i (by simpa using hi8)
          have hfX := ho.frozen_ hlen8 i
          have hsto := fun y => ho.store hlen8 i y
          rw [show ((List.range 8).map (midR k u r i))[i]'(by simpa using hi8) = fv (permT k u r i) by simp [midR]] at hcX
          have hcst := rconst_any p hpp hp2 r i ⟨by omega, by omega⟩ ⟨by omega, by omega⟩ wr
          rw [cstI_in p hr8 hi8] at hcst
          obtain ⟨V, hV⟩ : ∃ V, V = permT k u r i := ⟨_, rfl⟩
          rw [← hV] at hst hcX
          obtain ⟨C, hC⟩ : ∃ C, C = cstT p r i := ⟨_, rfl⟩
          rw [← hC] at hst hcst
          have v1 := fv_nonneg V
          have v2 := fv_lt V
          have c1 := fv_nonneg C
          have c2 := fv_lt C
          have hpow := rpow_any p hpp hp2 (fv V + fv C) k ⟨by omega, by omega⟩ ⟨by omega, by omega⟩ wr
          rw [el_add, el_fv, el_fv, zpw_nat] at hpow
          obtain ⟨T, hT⟩ : ∃ T, T = pw (V + C) k := ⟨_, rfl⟩
          rw [← hT] at hpow hst
          have HC := Lib.hid hcst
          have HP := Lib.hid hpow
          have HST := Lib.hid hst
          have HSTO := Lib.hid hsto
          have HB := Lib.hid hb
          clear hcst hpow hst hsto hV hC hT ho hb hlen8
          go_wp2_with fail
          refine (HC.out).mono ?_
          rintro _ _ ⟨rfl, rfl⟩
          go_wp2_with (refine (HP.out).mono ?_; rintro _ _ ⟨rfl, rfl⟩; clear HP)
          have ho := HSTO.out (fv T)
          rw [HST.out] at ho
          have hb := HB.out.setCell (p := ⟨g, i, none⟩) hg1 (vi (fv T))
          go_roundw
          case rel => exact ⟨i + 1, by omega, by go_num, ho, hb⟩
          case measure => simp [intOf]; omega
        · have ei : i = 8 := by omega
          subst ei
          have hdn := midR_done k u r
          have hgd := i64_getD3 (xs := (List.range 8).map (midR k u r 8)) (by intro y hy; obtain ⟨j, _, rfl⟩ := List.mem_map.1 hy; exact i64_midR hp2 k u r 8 j)
          have hlen8 : 8 = ((List.range 8).map (midR k u r 8)).length := by simp
          obtain ⟨A', n', c', ev, hl', hc', _, hs'⟩ := ho.shapeN
          injection ev with ev1 ev2 ev3
          subst ev1 ev2 ev3
          obtain ⟨ad, ea, hab, hac⟩ := sl8 hs' (by simp)
          injection ea with ea
          subst ea
          have hmx := rmix_any p hpp hp2 ⟨g, 0, none⟩ 8 cap (Nat.le_refl _) (by omega) (fun j => ((List.range 8).map (midR k u r 8)).getD j 0) hgd wr hab hac
          rw [hdn] at hmx
          have HM := Lib.hid hmx
          have HB := Lib.hid hb
          clear hmx hdn hgd hlen8 hs' hac ho hb
          go_wp2_with fail
          refine (HM.out).mono ?_
          rintro _ w5 ⟨v5, rfl, ho5, hb5⟩
          have ho := ho5.more HB.out.size
          have hb := HB.out.trans (hb5.mono HB.out.size)
          go_wp2
          go_roundw
          case rel => exact ⟨r + 1, by omega, by go_num, ho, hb⟩
          case measure => simp [intOf]; omega
    · have er : r = 8 := by omega
      subst er
      go_wp2
      go_ret
      exact ⟨_, rfl, ho, hb⟩
end Go.Proofs.YtlcmacdeadmloaaDoor

/- The walk of law3.SpongeMakes. -/
set_option linter.unusedVariables false
namespace Go.Proofs.YtlcmacdeadmloaaDoor
open Go.RowKit Zp

/-- the cells of a table of eight rows of eight -/
def T88 (w : World) (ad : Addr) (m : Nat → Nat → Int) : Prop := ∀ i, i < 8 → ∃ (a : Addr) (c : Nat), w.cell? (ad.add i) = some (.slice (some a) 8 c) ∧ ∀ j, j < 8 → w.cell? (a.add j) = some (vi (m i j))
theorem t88_own {w : World} {base base2 : Nat} {v : Value} {us : List Value} {m : Nat → Nat → Int} (h : OwnR w base v us) (hr : RowsOwn w base2 us ((List.range 8).map fun a => (List.range 8).map fun j => m a j)) :
    ∃ (ad : Addr) (c : Nat), v = .slice (some ad) 8 c ∧ T88 w ad m := by
  have hl : us.length = 8 := by rw [hr.1]; simp
  obtain ⟨A, n, c, rfl, hn, hc⟩ := ownR_shape h
  have en : n = 8 := by omega
  subst en
  have h' : w.ownsRow base 22 1 (.slice A 8 c) 8 us := by
    have h1 : w.ownsRow base 22 1 (.slice A 8 c) us.length us := h
    rwa [hl] at h1
  have hrd := Reads.of_own h'
  obtain ⟨ad, _, rfl, _, _, _⟩ := Reads.at_ (k := 0) hrd (by omega)
  refine ⟨ad, c, rfl, fun i hi => ?_⟩
  obtain ⟨ad', u, e1, e2, e3, e4⟩ := Reads.at_ (k := i) hrd (by omega)
  injection e1 with e1
  subst e1
  have hiu : i < us.length := by omega
  rw [List.getElem?_eq_getElem hiu] at e3
  injection e3 with e3
  have hrow := hr.2 i hiu (by simpa using hi)
  obtain ⟨A1, n1, c1, e6, e7, e8, e9, e10⟩ := hrow.shapeN
  have en1 : n1 = 8 := by rw [← e7]; simp
  subst en1
  obtain ⟨a, ea, hab, hac⟩ := sl8 e10 e7
  refine ⟨a, c1, by rw [e4, ← e3, e6, ea], fun j hj => ?_⟩
  rw [hac j hj]
  simp [List.getD, hj]
set_option maxRecDepth 100000 in
set_option maxHeartbeats 4000000 in
theorem spongeMakes_walk (w : World) (p : Int) (hp : I64 p) (r : Int) (hr : I64 r) (i : Int) (hi : I64 i) (hT : Typed w) :
    Calls Tryd.prog 4 #[vi p, vi r, vi i] w fun e w' => SaysW (.bool true) w e w' := by
  by_cases h : HasSponge p
  · obtain ⟨n, rfl, h23, hm, hpr⟩ := hasSponge_nat h
    haveI := hpr.ne
    have HS := Lib.hid (ssponge_yes n h23 hm hpr w hT)
    have h3 : 3 ≤ n := by omega
    have h2 : 2 ≤ n := by omega
    have HRC := Lib.hid (fun W => rconst_any n h2 hm r i hr hi W)
    have HRP := Lib.hid (fun k z oo s b W (G : Spg W s b k z oo) V => rpower_is n k h3 hm G.k2 (G.klt (by omega)) G.least G.cop V)
    have HCC := Lib.hid (fun b s W a b' => const_any n b s h2 hm r i hr hi W a b')
    obtain ⟨C, hC⟩ : ∃ C, C = cstI n r i := ⟨_, rfl⟩
    rw [← hC] at HRC HCC
    clear h hpr hT hC
    go_enter Tryd.func4, Tryd.ntmps4
    go_wp2_with fail
    refine (HS.out).mono ?_
    rintro _ w1 ⟨s, b, k, z, oo, rfl, F, G, hs1, hs2, hb1⟩
    have HF := Lib.hid F
    have HG := Lib.hid G
    have hcb := F.c0
    have HB1 := Lib.hid hb1
    clear F G hb1 HS
    go_wp2_with fail
    refine (power_s s b k z oo w1 HG.out).mono ?_
    rintro _ _ ⟨rfl, rfl⟩
    go_wp2_with fail
    refine (HRP.out k z oo s b w1 HG.out _).mono ?_
    rintro _ _ ⟨rfl, rfl⟩
    go_wp2_with fail
    refine (HCC.out b s w1 HG.out.c0 hcb).mono ?_
    rintro _ _ ⟨rfl, j1, rfl⟩
    go_wp2_with fail
    refine (HRC.out _).mono ?_
    rintro _ _ ⟨rfl, rfl⟩
    go_wp2_with fail
    refine (sfield_s s b k z oo _ (HG.out.below (below_drewN (Below.refl _ _) j1) hs2)).mono ?_
    rintro _ _ ⟨rfl, rfl⟩
    go_wp2_with fail
    refine (p_any n b _ (by exact hcb)).mono ?_
    rintro _ _ ⟨rfl, rfl⟩
    go_wp2_with fail
    refine (matrix_any s b k z oo _ (HG.out.below (below_drewN (Below.refl _ _) j1) hs2)).mono ?_
    rintro _ w2 ⟨v2, us, rfl, ho2, hr2, hb2⟩
    have HB2 := Lib.hid (HB1.out.trans (((below_drewN (Below.refl w1.heap.size w1) j1).trans hb2).mono HB1.out.size))
    obtain ⟨ad, c2, rfl, ht⟩ := t88_own ho2 hr2
    have HTT := Lib.hid ht
    clear ho2 hr2 ht hb2 hcb
    go_wp2
    go_loop [16, 17, 18] (fun t _ _ => ∃ k : Nat, k ≤ 8 ∧ t = vi k) (fun t _ _ => 8 - (intOf t).toNat)
    case atStart => exact ⟨0, by omega, rfl⟩
    case round =>
      obtain ⟨k, hk, rfl⟩ := hrel
      by_cases hk8 : k < 8
      · have k1 : (0 : Int) ≤ (k : Int) := by omega
        have k2 : (k : Int) < 8 := by omega
        obtain ⟨a, c, hca, hcc⟩ := HTT.out k hk8
        have HCE := Lib.hid hcc
        clear hcc
        go_wp2
        go_loop [17, 18] (fun t _ => ∃ j : Nat, j ≤ 8 ∧ t = vi j) (fun t _ => 8 - (intOf t).toNat)
        case atStart => exact ⟨0, by omega, rfl⟩
        case round =>
          obtain ⟨j, hj, rfl⟩ := hrel
          by_cases hj8 : j < 8
          · have j1 : (0 : Int) ≤ (j : Int) := by omega
            have j2 : (j : Int) < 8 := by omega
            have hcj := HCE.out j hj8
            have hin := rinv_any n h2 hm ((k : Int) + j + 8) ⟨by omega, by omega⟩ w2
            have ec : Zp.inv (el n ((k : Int) + j + 8)) = cauchy n k j := by unfold cauchy; congr 2
            rw [ec] at hin
            generalize fv (cauchy n k j) = X at hcj hin
            have HI := Lib.hid hin
            clear hin ec
            go_wp2_with fail
            refine (HI.out).mono ?_
            rintro _ _ ⟨rfl, rfl⟩
            go_wp2
            go_round
            case rel => exact ⟨j + 1, by omega, by go_num⟩
            case measure => simp [intOf]; omega
          · have ej : j = 8 := by omega
            subst ej
            go_wp2
            go_round
            case rel => exact ⟨k + 1, by omega, by go_num⟩
            case measure => simp [intOf]; omega
      · have ek : k = 8 := by omega
        subst ek
        go_wp2
        go_ret
        exact ⟨rfl, HB2.out⟩
  · have HS := Lib.hid (ssponge_no p hp h w hT)
    clear h
    go_enter Tryd.func4, Tryd.ntmps4
    go_wp2_with fail
    refine (HS.out).mono ?_
    rintro _ w1 ⟨rfl, hb1⟩
    go_wp2
    go_ret
    exact ⟨rfl, hb1⟩
end Go.Proofs.YtlcmacdeadmloaaDoor
