/- A bundle of texts: Ints, Pd, Hs, Eval, Ha, Tb, Cc, Ch, Ts, Vals, Sm1. -/
import Derived.Test.YtijhajkakmohnaaGreatDoorB01
import Derived.Deep.QuietTactic
import Derived.BigQuiet
import Derived.Outline
import Derived.WalkLawsBesides
import Derived.WalkSpells
import Derived.Test.YtijhajkakmohnaaGreatDoorB03
import Derived.Test.YtijhajkakmohnaaGreatDoorB02
import Derived.RangeFuncNested
import Derived.RangeFuncBound
import Derived.RangeFuncCalls
import Derived.RangeFuncLeaves
import Derived.RangeFuncBox
import Derived.Shelf.Abstract
import Derived.Shelf.RegionOpen
import Derived.WalkKit
import Derived.OwnWalkIn
import Derived.TacticsInMore
import Derived.LoopNIn
import Derived.LoopIn
import Derived.Lib.AppendZeros
import Derived.Deep.RegionHeld3
import Derived.Test.YtijhajkakmohnaaGreatDoorB00
/- Walks: attestsame.Ints, slices.Clip, the reference's At. -/
set_option linter.unusedVariables false
namespace Go.Proofs.YtijhajkakmohnaaGreatDoor
open Go.RowKit

/-- two lists are the same; a Bool behind a name -/
def eqB (xs ys : List Int) : Bool := decide (xs = ys)
theorem eqB_true {xs ys : List Int} (h : xs = ys) : eqB xs ys = true := decide_eq_true h
theorem eqB_false {xs ys : List Int} (h : xs ≠ ys) : eqB xs ys = false := decide_eq_false h

def IntsRel (xs ys : List Int) (w : World) (i : Value) (wr : World) : Prop := ∃ k : Nat, k ≤ xs.length ∧ i = vi k ∧ xs.take k = ys.take k ∧ ∃ j, wr = w.drewN j

set_option maxHeartbeats 1000000 in
theorem ints_any (A B : Option Addr) (c d : Nat) (xs ys : List Int) (hx : xs.length ≤ 9223372036854775807) (hy : ys.length ≤ 9223372036854775807) (w : World) (hsx : SL w A xs) (hsy : SL w B ys) :
    Calls Tryz.prog 18 #[.slice A xs.length c, .slice B ys.length d] w fun e w' => e = .returned (.bool (eqB xs ys)) ∧ ∃ k, w' = w.drewN k := by
  obtain ⟨n, hn⟩ : ∃ n, n = xs.length := ⟨_, rfl⟩
  obtain ⟨m, hm⟩ : ∃ m, m = ys.length := ⟨_, rfl⟩
  rw [← hn, ← hm]
  rw [← hn] at hx
  rw [← hm] at hy
  have HN := Lib.hid hn
  have HM := Lib.hid hm
  clear hn hm
  by_cases hnm : n = m
  · have t1 : ((n : Int) != (m : Int)) = false := by rw [bne_eq_false_iff_eq]; omega
    have HNM := Lib.hid hnm
    clear hnm
    go_enter Tryz.func18, Tryz.ntmps18
    go_wp2
    go_loopw [5] (fun i wr => IntsRel xs ys w i wr) (fun i _ => n - (intOf i).toNat)
    case atStart => exact ⟨0, Nat.zero_le _, rfl, by simp, 0, rfl⟩
    case round =>
      obtain ⟨k, hk, rfl, heq, j, rfl⟩ := hrel
      rw [← HN.out] at hk
      have HEQ := Lib.hid heq
      clear heq
      by_cases hlt : k < n
      · have hkm : k < m := by rw [← HNM.out]; exact hlt
        have hkx : k < xs.length := by rw [← HN.out]; exact hlt
        have hky : k < ys.length := by rw [← HM.out]; exact hkm
        obtain ⟨ad, rfl, _, hc1⟩ := (hsx.drewN j).at_ hkx
        obtain ⟨bd, rfl, _, hc2⟩ := (hsy.drewN j).at_ hky
        have i1 : (0 : Int) ≤ k := by omega
        have i2 : (k : Int) < n := by omega
        have i3 : (k : Int) < m := by omega
        have htk : xs.take (k + 1) = xs.take k ++ [xs[k]] := List.take_succ_eq_append_getElem hkx
        have hty : ys.take (k + 1) = ys.take k ++ [ys[k]] := List.take_succ_eq_append_getElem hky
        obtain ⟨x, hxk⟩ : ∃ x, x = xs[k] := ⟨_, rfl⟩
        obtain ⟨y, hyk⟩ : ∃ y, y = ys[k] := ⟨_, rfl⟩
        rw [← hxk] at hc1 htk
        rw [← hyk] at hc2 hty
        rw [World.cell?_drewN] at hc1 hc2
        by_cases hxy : x = y
        · have t2 : (x != y) = false := by rw [hxy]; simp
          have h2 : xs.take (k + 1) = ys.take (k + 1) := by rw [htk, hty, HEQ.out, hxy]
          have H2 := Lib.hid h2
          clear h2 hxy htk hty hxk hyk
          go_wp2
          go_quiet (fail)
          go_wp2
          go_roundw
          case rel => exact ⟨k + 1, by rw [← HN.out]; omega, by go_num, H2.out, _, rfl⟩
          case measure => simp [intOf]; omega
        · have t2 : (x != y) = true := by rw [bne_iff_ne]; exact hxy
          have h2 : eqB xs ys = false := eqB_false fun e => by
            subst e
            exact hxy (by rw [hxk, hyk])
          have H2 := Lib.hid h2
          clear h2 hxy htk hty hxk hyk
          go_wp2
          go_quiet (fail)
          go_wp2
          go_ret
          exact ⟨ret_bool H2.out.symm, _, World.drewN_drewN _ _ _⟩
      · obtain rfl : k = n := by omega
        have h2 : eqB xs ys = true := eqB_true (by
          have := HEQ.out
          rwa [List.take_of_length_le (by rw [← HN.out]; exact Nat.le_refl _), List.take_of_length_le (by rw [← HM.out, ← HNM.out]; exact Nat.le_refl _)] at this)
        have H2 := Lib.hid h2
        clear h2
        go_wp2
        go_ret
        exact ⟨ret_bool H2.out.symm, _, rfl⟩
  · have t1 : ((n : Int) != (m : Int)) = true := by rw [bne_iff_ne]; omega
    have h2 : eqB xs ys = false := eqB_false fun e => hnm (by rw [HN.out, HM.out, e])
    have H2 := Lib.hid h2
    clear h2 hnm
    go_enter Tryz.func18, Tryz.ntmps18
    go_wp2
    go_ret
    exact ⟨ret_bool H2.out.symm, 0, rfl⟩

theorem clip_any (A : Option Addr) (n c : Nat) (hn : n ≤ c) (hc : c ≤ 9223372036854775807) (w : World) :
    Calls Tryz.prog 42 #[.slice A n c] w fun e w' => e = .returned (.slice A n n) ∧ w = w' := by
  go_enter Tryz.func42, Tryz.ntmps42
  go_wp2
  go_ret
  exact ⟨rfl, rfl⟩

def atI (xs : List Int) (i : Int) : Int := if 0 ≤ i then xs.getD i.toNat 0 else 0
end Go.Proofs.YtijhajkakmohnaaGreatDoor

/- The walk of Sponge.Pad. -/
set_option linter.unusedVariables false
namespace Go.Proofs.YtijhajkakmohnaaGreatDoor
open Go.RowKit Zp

theorem Own.fresh {w : World} {base n c : Nat} {A : Option Addr} {xs : List Int} (h : Own w base (.slice A n c) xs) : ∀ ad, A = some ad → base ≤ ad.block := by
  obtain ⟨A', c', e, _, _, hf, _⟩ := h.shape
  injection e with e1 _ _
  subst e1
  intro ad ea
  obtain ⟨g, rfl, hg, _⟩ := hf ad ea
  exact hg
/-- .. in new memory -/
def GivesNew (xs : List Int) (w : World) (e : Ending) (w' : World) : Prop := ∃ A c, e = .returned (.slice A xs.length c) ∧ xs.length ≤ c ∧ c ≤ maxLen ∧ SL w' A xs ∧ Below w.heap.size w w' ∧ ∀ ad, A = some ad → w.heap.size ≤ ad.block
def PadRel {p : Nat} [NeZero p] (l : List Int) (w : World) (v t : Value) (wr : World) : Prop :=
  ∃ j : Nat, j ≤ l.length ∧ t = vi j ∧ Own wr w.heap.size v ((fvs (els p l)).take j) ∧ Below w.heap.size w wr
set_option maxRecDepth 100000 in
set_option maxHeartbeats 2000000 in
theorem pad_new (p S b s k z : Nat) [NeZero p] (oo : Nat → Nat → Fin p) (A : Option Addr) (m c : Nat) (l : List Int) (hm : l.length = m) (hI : ∀ n ∈ l, I64 n) (hr : m * 8 + 64 ≤ 140737488355328) (w : World) (F : Fld w S b p) (G : Spg w s b k z oo) (hs : SL w A l) :
    Calls Tryz.prog 143 #[.pointer (some ⟨s, 0, none⟩), .slice A m c] w fun e w' => GivesNew (padL (fvs (els p l))) w e w' := by
  have hp2 := F.max
  have hcb := F.c0
  have hbl := block_lt_of_cell hcb
  have hs0 := G.c0
  have hsl := block_lt_of_cell hs0
  have hlen : (fvs (els p l)).length = m := by simp [fvs, els, hm]
  have HLEN := Lib.hid hlen
  have HML := Lib.hid hm
  have hmk := make_ints0 (m + 4) (by omega)
  have e4 : ((m + 4 : Nat) : Int) = (m : Int) + 4 := by omega
  rw [e4] at hmk
  clear e4
  have hO0 := own_made0 w w.heap.size (m + 4) (Nat.le_refl _) (by omega)
  have hb0 : Below w.heap.size w (w.alloc (.cells (zeros (m + 4)) 3)) := (Below.refl _ _).alloc (Nat.le_refl _) _
  clear G hlen hm
  go_enter Tryz.func143, Tryz.ntmps143
  go_wp2
  have hO : Own (w.alloc (.cells (zeros (m + 4)) 3)) w.heap.size (.slice (some ⟨w.heap.size, 0, none⟩) 0 (m + 4)) ((fvs (els p l)).take 0) := hO0
  have hb1 := hb0
  generalize World.alloc _ _ = W0 at hO hb1
  clear hO0 hb0 hmk
  go_loopw [5, 14] (fun v t wr => PadRel (p := p) l w v t wr) (fun _ t _ => m - (intOf t).toNat)
  case atStart => exact ⟨0, by omega, rfl, hO, hb1⟩
  case round =>
    clear hO hb1
    obtain ⟨j, hj, rfl, hown, hb⟩ := hrel
    have hcr := (F.below hb F.le).c0
    have hsr := (hb.cell (p := ⟨s, 0, none⟩) hsl).trans hs0
    by_cases hjm : j < m
    · have hjl : j < l.length := by rw [HML.out]; exact hjm
      obtain ⟨ad, rfl, hab, hcell⟩ := (hs.below hb).at_ hjl
      have hn := hI _ (List.getElem_mem hjl)
      have htk : (fvs (els p l)).take (j + 1) = (fvs (els p l)).take j ++ [fv (el p l[j])] := by
        rw [List.take_succ_eq_append_getElem (by rw [HLEN.out]; exact hjm)]
        simp [fvs, els]
      have hlk : ((fvs (els p l)).take j).length < 17592186044416 := by
        have := List.length_take_le j (fvs (els p l)); omega
      have HTK := Lib.hid htk
      have HLK := Lib.hid hlk
      have j1 : (0 : Int) ≤ (j : Int) := by omega
      have j2 : (j : Int) < (m : Int) := by omega
      clear htk hlk
      generalize l[j] = x at hcell hn HTK
      have hof := fun W hc => of_el p hp2 b x hn W hc
      have HOF := Lib.hid hof
      clear hof
      go_wp2_with fail
      refine (HOF.out _ (by exact hcr)).mono ?_
      rintro _ w1 ⟨rfl, hw1⟩
      have hw1' := hw1.symm
      subst hw1'
      go_wp2_with (at_builtin; refine wpList_app1 wr (fv (el p x)) rfl _ _ rfl w.heap.size _ _ rfl rfl hown HLK.out hb.size ?_; intro v' w1 hg)
      exact ⟨⟨j + 1, by omega, rfl, by rw [HTK.out]; exact hg.own, hg.below hb hown (Nat.le_refl _) hb.size⟩, by simp [intOf]; omega⟩
    · obtain ⟨L, hL⟩ : ∃ L, L = fvs (els p l) := ⟨_, rfl⟩
      have hjm' : j = m := by have := HML.out; omega
      have hLn : L.length = m := by rw [hL]; exact HLEN.out
      rw [← hL, List.take_of_length_le (by rw [hLn]; omega)] at hown
      have HL := Lib.hid hL
      have HLN := Lib.hid hLn
      have t1 : ¬ (j : Int) < (m : Int) := by omega
      have hlk : L.length < 17592186044416 := by omega
      have HLK := Lib.hid hlk
      clear hL hLn hlk hjm'
      go_wp2_with (at_builtin; refine wpList_app1 wr 1 rfl _ _ rfl w.heap.size _ _ rfl rfl hown HLK.out hb.size ?_; intro v' w1 hg)
      have hown1 := hg.own
      have hb1 := hg.below hb hown (Nat.le_refl _) hb.size
      clear hg hown hcr hsr
      go_loopw [5] (fun v wr => ∃ q : Nat, q ≤ padN m ∧ Own wr w.heap.size v (L ++ [1] ++ List.replicate q 0) ∧ Below w.heap.size w wr) (fun v _ => m + 5 - (match v with | .slice _ n _ => n | _ => 0))
      case atStart => exact ⟨0, Nat.zero_le _, by simpa using hown1, hb1⟩
      case round =>
        obtain ⟨q, hq, hown, hb⟩ := hrel
        obtain ⟨A1, n1, c1, rfl, hl1, hc1, hc2, hs1⟩ := hown.shapeN
        have HFR := Lib.hid hown.fresh
        have hn1 : n1 = m + 1 + q := by rw [← hl1]; simp [HLN.out]; omega
        have hp4 : padN m ≤ 3 := by unfold padN; omega
        have em : (n1 : Int) % 4 = ((n1 % 4 : Nat) : Int) := by omega
        have HN1 := Lib.hid hn1
        have HL1 := Lib.hid hl1
        by_cases h4 : n1 % 4 = 0
        · have tq : ((n1 : Int) % 4 != 0) = false := by rw [em, h4]; rfl
          have hqq : q = padN m := by unfold padN at *; omega
          have HQQ := Lib.hid hqq
          clear hl1 hn1 em h4 hqq
          have hm2 : c1 ≤ 9223372036854775807 := by unfold maxLen at hc2; exact hc2
          go_wp2_with fail
          refine (clip_any A1 n1 c1 hc1 hm2 _).mono ?_
          rintro _ _ ⟨rfl, rfl⟩
          go_wp2
          go_ret
          have hx : padL (fvs (els p l)) = L ++ [1] ++ List.replicate q 0 := by unfold padL; rw [← HL.out, HLN.out, ← HQQ.out]
          exact ⟨A1, n1, by rw [hx, HL1.out]; rfl, by rw [hx, HL1.out]; exact Nat.le_refl _, Nat.le_trans hc1 hc2, by rw [hx]; exact hs1, hb, HFR.out⟩
        · have tq : ((n1 : Int) % 4 != 0) = true := by rw [em, bne_iff_ne]; omega
          have hq4 : q + 1 ≤ padN m := by unfold padN at *; omega
          have hlk : (L ++ [1] ++ List.replicate q 0).length < 17592186044416 := by rw [HL1.out]; omega
          have HLK := Lib.hid hlk
          clear hl1 hn1 em h4 hlk
          go_wp2_with (at_builtin; refine wpList_app1 wr 0 rfl _ _ rfl w.heap.size _ _ rfl rfl hown HLK.out hb.size ?_; intro v' w1 hg)
          have ho := hg.own
          have hbb := hg.below hb hown (Nat.le_refl _) hb.size
          have ex : L ++ [1] ++ List.replicate q 0 ++ [0] = L ++ [1] ++ List.replicate (q + 1) 0 := by rw [List.replicate_succ', ← List.append_assoc]
          rw [ex] at ho
          clear hg hown
          obtain ⟨A2, n2, c2, rfl, h21, _, _, _⟩ := ho.shapeN
          have hn2 : n2 = m + 1 + (q + 1) := by rw [← h21]; simp [HLN.out]; omega
          have h1n := HN1.out
          exact ⟨⟨q + 1, hq4, ho, hbb⟩, by show m + 5 - n2 < m + 5 - n1; omega⟩
theorem pad_any (p S b s k z : Nat) [NeZero p] (oo : Nat → Nat → Fin p) (A : Option Addr) (m c : Nat) (l : List Int) (hm : l.length = m) (hI : ∀ n ∈ l, I64 n) (hr : m * 8 + 64 ≤ 140737488355328) (w : World) (F : Fld w S b p) (G : Spg w s b k z oo) (hs : SL w A l) :
    Calls Tryz.prog 143 #[.pointer (some ⟨s, 0, none⟩), .slice A m c] w fun e w' => Gives (padL (fvs (els p l))) w e w' :=
  (pad_new p S b s k z oo A m c l hm hI hr w F G hs).mono fun _ _ h => by
    obtain ⟨A, c, h1, h2, h3, h4, h5, _⟩ := h
    exact ⟨A, c, h1, h2, h3, h4, h5⟩
end Go.Proofs.YtijhajkakmohnaaGreatDoor

/- What Hash makes: the state when some pieces are in it; the digest. -/
set_option linter.unusedVariables false
namespace Go.Proofs.YtijhajkakmohnaaGreatDoor
open Go.RowKit Zp

section
variable {p : Nat}
/-- a piece of four comes into a state -/
def absT (v m : Nat → Fin p) (t j : Nat) : Fin p := if j < 4 then v j + m (4 * t + j) else v j
/-- i places of a piece are in it -/
def absI (v m : Nat → Fin p) (t i j : Nat) : Int := if j < i then fv (v j + m (4 * t + j)) else fv (v j)
theorem absI_zero (v m : Nat → Fin p) (t : Nat) : absI v m t 0 = fun j => fv (v j) := by funext j; simp [absI]
theorem absI_at (v m : Nat → Fin p) (t i : Nat) : absI v m t i i = fv (v i) := by simp [absI]
theorem absI_step (v m : Nat → Fin p) (t i : Nat) : upd (absI v m t i) i (fv (v i + m (4 * t + i))) = absI v m t (i + 1) := by
  funext j
  unfold upd absI
  by_cases h : j = i
  · subst h; rw [if_pos rfl, if_pos (by omega)]
  · rw [if_neg h]
    by_cases h1 : j < i
    · rw [if_pos h1, if_pos (by omega)]
    · rw [if_neg h1, if_neg (by omega)]
theorem absI_four (v m : Nat → Fin p) (t j : Nat) : absI v m t 4 j = fv (absT v m t j) := by
  unfold absI absT
  split <;> rfl
theorem i64_absI (hm : p ≤ 2147483647) (v m : Nat → Fin p) (t i j : Nat) : I64 (absI v m t i j) := by
  unfold absI
  split <;> exact i64_fv _ hm
end
section
variable {p : Nat} [NeZero p]
theorem permT_congr (k : Nat) {u v : Nat → Fin p} (h : ∀ j, j < 8 → u j = v j) : ∀ r j, j < 8 → permT k u r j = permT k v r j := by
  intro r
  induction r with
  | zero => exact h
  | succ r ih =>
    intro j hj
    show ap (cauchy p) _ j = ap (cauchy p) _ j
    exact ap_congr (fun _ _ => rfl) fun i hi => by rw [ih i hi]
/-- the state when t pieces are in it -/
def hashT (k : Nat) (m : Nat → Fin p) : Nat → Nat → Fin p
  | 0 => fun _ => 0
  | t + 1 => permT k (absT (hashT k m t) m t) 8
theorem absI_done (v m : Nat → Fin p) (t j : Nat) : el p (absI v m t 4 j) = absT v m t j := by
  unfold absI absT
  split <;> rw [el_fv]
/-- the padded list as elements -/
def padE (p : Nat) [NeZero p] (l : List Int) (j : Nat) : Fin p := el p ((padL (fvs (els p l))).getD j 0)
theorem padE_at (h2 : 2 ≤ p) (l : List Int) {j : Nat} (hj : j < (padL (fvs (els p l))).length) : (padL (fvs (els p l)))[j] = fv (padE p l j) := by
  have hx : ∀ x ∈ padL (fvs (els p l)), 0 ≤ x ∧ x < (p : Int) := by
    intro x hx
    unfold padL at hx
    rw [List.mem_append, List.mem_append] at hx
    rcases hx with (hx | hx) | hx
    · obtain ⟨y, _, rfl⟩ := List.mem_map.1 hx
      exact ⟨fv_nonneg y, fv_lt y⟩
    · simp at hx; subst hx; constructor <;> omega
    · have := List.eq_of_mem_replicate hx; subst this; constructor <;> omega
  obtain ⟨h0, h1⟩ := hx _ (List.getElem_mem hj)
  unfold padE
  rw [List.getD, List.getElem?_eq_getElem hj, Option.getD_some, fv_el, Int.emod_eq_of_lt h0 h1]
/-- how many pieces -/
def padC (n : Nat) : Nat := (n + 1 + padN n) / 4
theorem padC_len (l : List Int) : (padL l).length = 4 * padC l.length := by
  unfold padL padC padN
  simp only [List.length_append, List.length_cons, List.length_nil, List.length_replicate]
  omega
/-- the digest -/
def digE (p k : Nat) [NeZero p] (l : List Int) : Nat → Fin p := hashT k (padE p l) (padC l.length)
def digL (p k : Nat) [NeZero p] (l : List Int) : List Int := (List.range 4).map fun j => fv (digE p k l j)
theorem digL_len (k : Nat) (l : List Int) : (digL p k l).length = 4 := by simp [digL]
end
theorem SL.pre {w : World} {A : Option Addr} {xs : List Int} (h : SL w A xs) (k : Nat) : SL w A (xs.take k) := by
  refine ⟨by simp, fun hn => ?_⟩
  have hl : 0 < xs.length := by rw [List.length_take] at hn; omega
  obtain ⟨ad, e, hb, hc⟩ := h.2 hl
  refine ⟨ad, e, hb, fun j u hu => hc j u ?_⟩
  rw [List.map_take, List.getElem?_take] at hu
  split at hu
  · exact hu
  · cases hu
theorem SL.far {w w' : World} {ad : Addr} {xs : List Int} {g : Nat} (h : SL w (some ad) xs) (hg : w.grownBy w' (some g)) (hne : ad.block ≠ g) : SL w' (some ad) xs := by
  refine ⟨h.1, fun hn => ?_⟩
  obtain ⟨ad', e, hb, hc⟩ := h.2 hn
  injection e with e
  subst e
  refine ⟨ad, rfl, Nat.lt_of_lt_of_le hb hg.size, fun j u hu => ?_⟩
  refine (World.cell?_of_block (hg.block _ (by rw [block_of_add]; exact hb) (by rw [block_of_add]; intro e; injection e with e; exact hne e))).trans (hc j u hu)
theorem blk_grown {w : World} {g i : Nat} {u : Value} : w.grownBy (w.setCell ⟨g, i, none⟩ u) (some g) :=
  ⟨rfl, rfl, rfl, by rw [World.size_setCell]; exact Nat.le_refl _, fun k _ hne => Below.heap_setCell w _ u k (fun e => hne (by rw [e]))⟩
theorem grown_of_below {w w' : World} (h : Below w.heap.size w w') (row : Option Nat) : w.grownBy w' row := ⟨h.os, h.tape, h.output, h.size, fun k hk _ => h.block k hk⟩
theorem dig_sl {w : World} {g p k : Nat} [NeZero p] {l : List Int} (h : Blk w g 142 (st fun j => fv (digE p k l j))) : SL w (some ⟨g, 0, none⟩) (digL p k l) := by
  have h1 := (sl_of_blk h).pre 4
  have e : ((List.range 8).map fun j => fv (digE p k l j)).take 4 = digL p k l := by
    unfold digL
    rfl
  rwa [e] at h1
end Go.Proofs.YtijhajkakmohnaaGreatDoor

/- slices.Backward at []int as an iterator; the walk of poly.Eval. After the guide's own text on slices.All. -/
set_option linter.unusedVariables false
namespace Go.Proofs.YtijhajkakmohnaaGreatDoor
open Go.RowKit Go.Shelf Zp
attribute [local go_sem] Oper.semAt_some

abbrev Int64' := { n : Int // I64 n }
/-- what has come when k rounds are over -/
def upto {α : Type} (f : Nat → α) (k : Nat) : List α := (List.range k).map f
theorem upto_succ {α : Type} (f : Nat → α) (k : Nat) : upto f (k + 1) = upto f k ++ [f k] := by simp [upto, List.range_succ]
theorem upto_length {α : Type} (f : Nat → α) (k : Nat) : (upto f k).length = k := by simp [upto]

/-- the pairs that come, from the last place on -/
def backF (zs : List Int64') (j : Nat) : Nat × Int64' := (zs.length - 1 - j, zs[zs.length - 1 - j]?.getD ⟨0, by constructor <;> omega⟩)

/-- below block n₀ but for block g nothing turns -/
def KeepBut (n₀ g : Nat) (A B : World) : Prop := ∀ k, k < n₀ → k ≠ g → B.heap[k]? = A.heap[k]?
theorem KeepBut.refl (n₀ g : Nat) (A : World) : KeepBut n₀ g A A := fun _ _ _ => rfl
theorem KeepBut.trans {n₀ g : Nat} {A B C : World} (h : KeepBut n₀ g A B) (k : KeepBut n₀ g B C) : KeepBut n₀ g A C := fun j hj hn => (k j hj hn).trans (h j hj hn)
theorem KeepBut.cell {n₀ g : Nat} {A B : World} (h : KeepBut n₀ g A B) {p : Addr} (hp : p.block < n₀) (hg : p.block ≠ g) : B.cell? p = A.cell? p := World.cell?_of_block (h _ hp hg)
theorem KeepBut.reads {n₀ n₁ g size n : Nat} {A B : World} {a : Option Addr} {xs : List Value} (h : KeepBut n₀ g A B) (h0 : n₁ ≤ n₀) (hg : n₁ ≤ g) (hr : Reads A n₁ size a n xs) : Reads B n₁ size a n xs :=
  hr.keep fun p hp => h.cell (by omega) (by omega)
theorem KeepBut.setCell {n₀ g : Nat} {A B : World} (h : KeepBut n₀ g A B) {p : Addr} (hp : p.block = g) (u : Value) : KeepBut n₀ g A (B.setCell p u) :=
  fun k hk hn => (Below.heap_setCell B p u k (by omega)).trans (h k hk hn)
theorem KeepBut.drewN {n₀ g : Nat} {A B : World} (h : KeepBut n₀ g A B) (m : Nat) : KeepBut n₀ g A (B.drewN m) := h
theorem KeepBut.drew {n₀ g : Nat} {A B : World} (h : KeepBut n₀ g A B) : KeepBut n₀ g A B.drew := h
theorem KeepBut.put {n₀ g B : Nat} (hB : n₀ ≤ B) (W : World) (l : Nat) (o o' : Obj) (hl : B ≤ l) (_ : W.heap[l]? = some o) (_ : o.isCells = false) (_ : o.isWalk = false) : KeepBut n₀ g W (W.putObj l o') :=
  fun k hk hn => by
    have h : k ≠ l := by omega
    simp [World.putObj, Ne.symm h]

set_option maxRecDepth 100000 in
set_option maxHeartbeats 2000000 in
theorem backward1_in (F : Fence) (n : Nat) (hf : F.fn 189) (hro : F.round = none) (hn : 1 ≤ n) (l Bs n₀ n₁ g : Nat) (hn1 : n₁ ≤ n₀) (hg : n₁ ≤ g) (hBg : Bs ≠ g) (A : Option Addr) (cap : Nat) (zs : List Int64') (hreach : zs.length * 8 ≤ 140737488351232)
    (J Jx : List (Nat × Int64') → World → Prop)
    (hY : ∀ pre x W, J pre W → pre.length < zs.length → YieldAt F (n - 1) Tryz.prog l #[.int .i64 (x.1 : Int), .int .i64 x.2.1] W fun e W' =>
      (e = .returned (.bool true) ∧ J (pre ++ [x]) W' ∧ KeepBut n₀ g W W') ∨ (e = .returned (.bool false) ∧ Jx (pre ++ [x]) W'))
    (W : World) (hBs : W.cell? ⟨Bs, 0, none⟩ = some (.slice A zs.length cap)) (hBl : Bs < n₀) (hc : Reads W n₁ 1 A zs.length ((zs.map Subtype.val).map vi)) (h0 : J [] W) :
    CallsIn F n Tryz.prog 189 #[.func (.yield l) #[] #[], .pointer (some ⟨Bs, 0, none⟩)] W fun e W' => (∃ v, e = .returned v) ∧
      ((∃ ys, ys = upto (backF zs) zs.length ∧ J ys W') ∨ (∃ pre, (∃ k, k ≤ zs.length ∧ pre = upto (backF zs) k) ∧ Jx pre W')) := by
  refine callsIn_of_wp Tryz.func189 rfl hf ?_ hro
  simp only [Tryz.ntmps189, List.size_toArray, List.length_cons, List.length_nil, Nat.reduceAdd, Nat.reduceSub, Array.replicate_succ, Array.replicate_zero, List.push_toArray, List.append_toArray, List.nil_append, List.cons_append]
  obtain ⟨len, hlen⟩ : ∃ len, len = zs.length := ⟨_, rfl⟩
  rw [← hlen] at hreach hBs ⊢
  have HL := Lib.hid hlen
  clear hlen
  gi_wp2
  gi_loopw [3] (fun i wr => ∃ k : Nat, k ≤ len ∧ i = .int .i64 ((len : Int) - 1 - k) ∧ J (upto (backF zs) k) wr ∧ KeepBut n₀ g W wr)
    (fun i _ => (intOf i + 1).toNat)
  case atStart => exact ⟨0, Nat.zero_le _, by go_num, h0, KeepBut.refl _ _ _⟩
  case round =>
    obtain ⟨k, hk, rfl, hJs, hnx⟩ := hrel
    have hBs' : wr.cell? ⟨Bs, 0, none⟩ = some (.slice A len cap) := (hnx.cell (p := ⟨Bs, 0, none⟩) hBl hBg).trans hBs
    by_cases hlt : k < len
    · obtain ⟨fn, tmps, assign, body, hy, hR⟩ := hY _ (backF zs k) wr hJs (by rw [upto_length, ← HL.out]; exact hlt)
      have hkl : len - 1 - k < zs.length := by rw [← HL.out]; omega
      obtain ⟨ad, u, rfl, hab, hx, hcell⟩ := Reads.at_ (k := len - 1 - k) (hnx.reads hn1 hg hc) hkl
      rw [List.getElem?_map, List.getElem?_map, List.getElem?_eq_getElem hkl] at hx
      have hxe : backF zs k = (len - 1 - k, zs[len - 1 - k]) := by
        simp only [backF]
        rw [← HL.out, List.getElem?_eq_getElem hkl]; rfl
      rw [hxe] at hy hR
      have hu : u = vi (zs[len - 1 - k]).1 := by simpa using hx.symm
      rw [hu] at hcell
      have i1 : 0 ≤ (len : Int) - 1 - k := by omega
      have i2 : ((len : Int) - 1 - k).toNat = len - 1 - k := by omega
      have i3 : (((len - 1 - k : Nat)) : Int) = (len : Int) - 1 - k := by omega
      dsimp only at hy hR
      rw [i3] at hy
      have I2 := Lib.hid i2
      have HXE := Lib.hid hxe
      clear i2 i3 hxe hx hu
      gi_wp2
      refine hR.mono ?_
      rintro e W3 (⟨rfl, hJ3, hk3⟩ | ⟨rfl, hJx3⟩)
      · gi_wp2
        go_roundw
        case rel => exact ⟨k + 1, by omega, by go_num, by rw [upto_succ, HXE.out]; exact hJ3, hnx.trans hk3⟩
        case measure => simp [intOf]; omega
      · gi_wp2
        refine bodyPost_ret (results_none rfl _ _ _) rfl ?_
        exact ⟨⟨_, rfl⟩, .inr ⟨_, ⟨k + 1, by omega, by rw [upto_succ, HXE.out]⟩, hJx3⟩⟩
    · obtain rfl : k = len := by omega
      gi_wp2
      go_end0
      exact ⟨⟨_, rfl⟩, .inl ⟨_, rfl, hJs⟩⟩

set_option maxHeartbeats 1000000 in
theorem backward_any (a : Option Addr) (len cap : Nat) (w : World) :
    Calls Tryz.prog 166 #[.slice a len cap] w fun e w' => e = .returned (.func (.func 189) #[] #[.pointer (some ⟨w.heap.size, 0, none⟩)]) ∧ w' = w.alloc (.cells #[.slice a len cap] 22) := by
  go_enter Tryz.func166, Tryz.ntmps166
  go_wp2
  go_ret
  exact ⟨rfl, rfl⟩

/-- slices.Backward(s) hands back what stops -/
theorem backward_stops (F : Fence) (n : Nat) (hf : F.fn 189) (hro : F.round = none) (hn : 1 ≤ n) (Bs n₀ n₁ g : Nat) (hn1 : n₁ ≤ n₀) (hg : n₁ ≤ g) (hBg : Bs ≠ g) (A : Option Addr) (cap : Nat) (zs : List Int64') (hreach : zs.length * 8 ≤ 140737488351232) (w : World) (hBs : Bs < w.heap.size) (hBl : Bs < n₀) (hn₀ : n₀ ≤ w.heap.size)
    (hc : w.cell? ⟨Bs, 0, none⟩ = some (.slice A zs.length cap)) (hI : Reads w n₁ 1 A zs.length ((zs.map Subtype.val).map vi)) :
    SeqStopsK F n Tryz.prog 189 #[.pointer (some ⟨Bs, 0, none⟩)] (fun x : Nat × Int64' => #[Value.int .i64 (x.1 : Int), Value.int .i64 x.2.1]) (KeepBut n₀ g) (fun ys => ys = upto (backF zs) zs.length)
      (fun pre => ∃ k, k ≤ zs.length ∧ pre = upto (backF zs) k) zs.length w := fun l J Jx W hW _ _ hY h0 => by
  have hc' := (hW.cell (p := ⟨Bs, 0, none⟩) hBs).trans hc
  exact backward1_in F n hf hro hn l Bs n₀ n₁ g hn1 hg hBg A cap zs hreach J Jx hY W hc' hBl (hI.below (hW.mono (Nat.le_trans hn1 hn₀))) h0

/-- what Eval's sum is when some have come: 'pre' the pairs from the last place on -/
def evPre {p : Nat} [NeZero p] (pre : List (Nat × Int64')) (x : Fin p) : Fin p := pre.foldl (fun s y => s * x + el p y.2.1) 0
theorem evPre_snoc {p : Nat} [NeZero p] (pre : List (Nat × Int64')) (y : Nat × Int64') (x : Fin p) : evPre (pre ++ [y]) x = evPre pre x * x + el p y.2.1 := by simp [evPre]
theorem evPre_upto {p : Nat} [NeZero p] (zs : List Int64') (x : Fin p) (k : Nat) (hk : k ≤ zs.length) :
    evPre (upto (backF zs) k) x = ev ((zs.map (fun y => el p y.1)).drop (zs.length - k)) x := by
  induction k with
  | zero => rw [Nat.sub_zero, List.drop_eq_nil_of_le (by simp)]; rfl
  | succ k ih =>
    have hi : zs.length - (k + 1) < zs.length := by omega
    rw [upto_succ, evPre_snoc, ih (by omega), List.drop_eq_getElem_cons (i := zs.length - (k + 1)) (by simpa using hi)]
    rw [show zs.length - (k + 1) + 1 = zs.length - k from by omega]
    simp only [ev, List.getElem_map]
    have hb : (backF zs k).2 = zs[zs.length - (k + 1)] := by
      simp only [backF]
      rw [show zs.length - 1 - k = zs.length - (k + 1) from by omega, List.getElem?_eq_getElem hi]; rfl
    rw [hb]
    grind

/-- ints as the iterator hands them on -/
theorem exists_subtype (xs : List Int) (h : ∀ x ∈ xs, I64 x) : ∃ zs : List Int64', zs.map Subtype.val = xs := by
  induction xs with
  | nil => exact ⟨[], rfl⟩
  | cons x xs ih =>
    obtain ⟨zs, hz⟩ := ih (fun y hy => h y (by simp [hy]))
    exact ⟨⟨x, h x (by simp)⟩ :: zs, by simp [hz]⟩

set_option maxRecDepth 100000 in
set_option maxHeartbeats 4000000 in
theorem eval_sub (p : Nat) [NeZero p] (S b : Nat) (A : Option Addr) (cap : Nat) (zs : List Int64') (hreach : zs.length * 8 ≤ 140737488351232) (x : Int) (hx : I64 x) (w : World) (F : Fld w S b p) (hs : SL w A (zs.map Subtype.val)) :
    Calls Tryz.prog 121 #[.pointer (some ⟨b, 0, none⟩), .slice A zs.length cap, vi x] w fun e w' => e = .returned (vi (fv (ev (zs.map (fun y => el p y.1)) (el p x)))) ∧ Below w.heap.size w w' := by
  refine (callsIn_wide (n := 3)).1 ?_
  have hro : (Fence.wide).round = none := rfl
  have h1 : 1 ≤ 3 := by omega
  have hp2 := F.max
  refine callsIn_of_wp_marks Tryz.func121 rfl trivial ?_ hro
  simp only [Tryz.ntmps121, List.size_toArray, List.length_cons, List.length_nil, Nat.reduceAdd, Nat.reduceSub, Array.replicate_succ, Array.replicate_zero, List.push_toArray, List.append_toArray, List.nil_append, List.cons_append]
  gi_wp2_with (refine ⟨trivial, ?_⟩; gi_at_call 166; refine (callsIn_wide.2 (backward_any _ _ _ _)).mono ?_; rintro e w' ⟨rfl, rfl⟩)
  obtain ⟨W0, hW0⟩ : ∃ W0 : World, W0 = (((w.alloc (.cells #[.pointer (some ⟨b, 0, none⟩)] 75)).alloc (.cells #[vi x] 3)).alloc (.cells #[.int .i64 0] 3)).alloc (.cells #[.slice A zs.length cap] 22) := ⟨_, rfl⟩
  have hsz : W0.heap.size = w.heap.size + 4 := by rw [hW0]; simp
  have hbel : Below w.heap.size w W0 := by rw [hW0]; exact ((((Below.refl _ w).alloc (Nat.le_refl _) _).alloc (by simp) _).alloc (by simp; omega) _).alloc (by simp; omega) _
  have bF : Blk W0 w.heap.size 75 #[.pointer (some ⟨b, 0, none⟩)] := by rw [hW0]; exact (((Blk.new _ _ _).alloc _).alloc _).alloc _
  have bX : Blk W0 (w.heap.size + 1) 3 #[vi x] := by
    rw [hW0]; have := Blk.new (w.alloc (.cells #[.pointer (some ⟨b, 0, none⟩)] 75)) 3 #[vi x]
    rw [World.size_alloc] at this; exact (this.alloc _).alloc _
  have bS : Blk W0 (w.heap.size + 1 + 1) 3 #[.int .i64 0] := by
    rw [hW0]; have := Blk.new ((w.alloc (.cells #[.pointer (some ⟨b, 0, none⟩)] 75)).alloc (.cells #[vi x] 3)) 3 #[.int .i64 0]
    rw [World.size_alloc, World.size_alloc] at this; exact this.alloc _
  have bL : Blk W0 (w.heap.size + 1 + 1 + 1) 22 #[.slice A zs.length cap] := by
    rw [hW0]; have := Blk.new (((w.alloc (.cells #[.pointer (some ⟨b, 0, none⟩)] 75)).alloc (.cells #[vi x] 3)).alloc (.cells #[.int .i64 0] 3)) 22 #[.slice A zs.length cap]
    rw [World.size_alloc, World.size_alloc, World.size_alloc] at this; exact this
  rw [← hW0]
  clear hW0
  have hs' : Reads W0 w.heap.size 1 A zs.length ((zs.map Subtype.val).map vi) := by
    have := Reads.below hs hbel
    rwa [List.length_map] at this
  refine wpIn_rangeFunc_ownG hro h1 (gf := 189) (lb := #[.pointer (some ⟨w.heap.size + 1 + 1 + 1, 0, none⟩)]) rfl trivial (enters_of Tryz.func189 (by kernel_rfl) rfl)
    (backward_stops Fence.wide (3 - 1) trivial hro (by omega) (w.heap.size + 1 + 1 + 1) (w.heap.size + 4) w.heap.size (w.heap.size + 1 + 1) (by omega) (by omega) (by omega) A cap zs hreach W0 (by omega) (by omega) (by omega) (by rw [bL.cell]; rfl) hs')
    KeepBut.trans (KeepBut.put (by omega)) (Below.refl _ _) (fun _ => rfl)
    (fun pre W => (W.cell? ⟨w.heap.size + 1 + 1, 0, none⟩ = some (vi (fv (evPre pre (el p x)))) ∧ W.frozen? ⟨w.heap.size + 1 + 1, 0, none⟩ = false ∧ W.cell? ⟨w.heap.size, 0, none⟩ = some (.pointer (some ⟨b, 0, none⟩)) ∧ W.cell? ⟨w.heap.size + 1, 0, none⟩ = some (vi x)) ∧ Below w.heap.size w W)
    (fun _ _ _ => False)
    (OwnFrom.and (Own.from (fun s A B row hs hg hr => ⟨cell_kept hs.1 hg hr, (frozen_kept hs.1 hg hr).trans hs.2.1, cell_kept hs.2.2.1 hg hr, cell_kept hs.2.2.2 hg hr⟩) _) (ownFrom_below (Nat.le_refl _) (by omega)))
    (fun _ _ _ _ _ hs _ _ => hs)
    ⟨⟨by rw [bS.cell]; rfl, bS.frozen 0, by rw [bF.cell]; rfl, by rw [bX.cell]; rfl⟩, hbel⟩
    (fun y => { tmps := #[.pointer (some ⟨b, 0, none⟩), .slice A zs.length cap, vi x, .pointer (some ⟨w.heap.size, 0, none⟩), undef, .pointer (some ⟨w.heap.size + 1, 0, none⟩), .int .i64 0, .pointer (some ⟨w.heap.size + 1 + 1, 0, none⟩), undef, vi y.2.1, .slice A zs.length cap, .func (.func 189) #[] #[.pointer (some ⟨w.heap.size + 1 + 1 + 1, 0, none⟩)], vi y.1, vi y.2.1, undef, undef, undef, undef, undef, undef, undef, undef], defers := [] }) ?assign ?body ?done ?stop
  case assign =>
    intro l y W K hK
    gi_wp2
    exact hK
  case body =>
    rintro l pre y W ⟨⟨hc, hf, hcf, hcx⟩, hB⟩ _
    have hy := y.2.2
    have hc0 : W.cell? ⟨b, 0, none⟩ = some (vi p) := (hB.cell (p := ⟨b, 0, none⟩) (Nat.lt_of_lt_of_le F.lt F.le)).trans F.c0
    have i1 := i64_fv (evPre pre (el p x)) hp2
    have i2 := i64_fv (el p (fv (evPre pre (el p x))) * el p x) hp2
    have h1' : 1 ≤ 3 - 1 - 1 := by omega
    have hmx : Tryz.prog.follows .mixedOrders = true := by kernel_rfl
    gi_wp2
    refine wpIn_region_quiet_tail 7 hmx (by kernel_rfl) (by rintro ⟨_, _, h⟩; exact h) (by kernel_rfl) ?_
    simp only [List.take_succ_cons, List.take_zero, List.drop_succ_cons, List.drop_zero]
    repeat (quiet_step (first
      | (go_at_call 115; exact Calls.quiet_of (mul_any p hp2 b _ _ i1 hx _ (by exact hc0)))
      | (go_at_call 144; exact Calls.quiet_of (add_any p hp2 b _ _ i2 hy _ (by exact hc0)))))
    refine wpQuiet_nil ?_
    intro _ hw'
    obtain ⟨nq, hw''⟩ := hw'
    subst hw''
    go_wp2
    have hk1 : KeepsOthers W (W.drewN nq) := ⟨Nat.le_refl _, fun _ _ h _ => h⟩
    refine ⟨(hk1.trans (KeepsOthers.setCell _ _ _)).from _, ((KeepBut.refl _ (w.heap.size + 1 + 1) W).drewN nq).setCell (p := ⟨w.heap.size + 1 + 1, 0, none⟩) rfl _, ⟨?_, ?_, ?_, ?_⟩, (below_drewN hB nq).setCell (by simp; omega) _⟩
    · rw [evPre_snoc, el_fv, el_fv]
      exact World.cell?_setCell_same' _ _ _ (by rw [show (W.drewN nq).cell? ⟨w.heap.size + 1 + 1, 0, none⟩ = W.cell? ⟨w.heap.size + 1 + 1, 0, none⟩ from rfl, hc]; rfl)
    · rw [World.frozen?_setCell]; exact hf
    · rw [World.cell?_setCell_other _ _ _ _ (by simp)]; exact hcf
    · rw [World.cell?_setCell_other _ _ _ _ (by simp)]; exact hcx
  case done =>
    rintro D ys W hD rfl ⟨⟨hc, _⟩, hB⟩ hK
    gi_wp2
    refine ⟨by simp, .inl ⟨_, _, rfl, run_takeDeferred hK, ?_⟩⟩
    have he : evPre (upto (backF zs) zs.length) (el p x) = ev (zs.map (fun y => el p y.1)) (el p x) := by rw [evPre_upto zs _ _ (Nat.le_refl _), Nat.sub_self, List.drop_zero]
    rw [he]
    exact ⟨_, results_tmp rfl _ _ _, rfl, hB.trans (belowK_b (w := w) (Nat.le_refl _) W D _ _ (by omega) hK rfl rfl)⟩
  case stop =>
    rintro D c pre W _ _ h _
    exact h.elim

/-- poly.Eval: what a polynomial is at a point -/
theorem eval_any (p : Nat) [NeZero p] (S b : Nat) (A : Option Addr) (cap : Nat) (xs : List Int) (hxs : ∀ n ∈ xs, I64 n) (hreach : xs.length * 8 ≤ 140737488351232) (x : Int) (hx : I64 x) (w : World) (F : Fld w S b p) (hs : SL w A xs) :
    Calls Tryz.prog 121 #[.pointer (some ⟨b, 0, none⟩), .slice A xs.length cap, vi x] w fun e w' => e = .returned (vi (fv (ev (xs.map (el p)) (el p x)))) ∧ Below w.heap.size w w' := by
  obtain ⟨zs, rfl⟩ := exists_subtype xs hxs
  rw [List.length_map] at hreach ⊢
  have h := eval_sub p S b A cap zs hreach x hx w F hs
  rw [List.map_map]
  exact h
end Go.Proofs.YtijhajkakmohnaaGreatDoor

/- slices.Chunk at []int as an iterator; the walk of Sponge.Hash. After the text on slices.Backward (Eval). -/
set_option linter.unusedVariables false
namespace Go.Proofs.YtijhajkakmohnaaGreatDoor
open Go.RowKit Go.Shelf Zp
attribute [local go_sem] Oper.semAt_some

/-- a region never lets out -/
def noOut (Q : Exit → Act → World → Prop) : Exit → Act → World → Prop
  | .outgrown, _, _ => False
  | .normal, a, w => Q .normal a w
  | .ret, a, w => Q .ret a w
  | .exit id, a, w => Q (.exit id) a w
  | .goto t, a, w => Q (.goto t) a w
  | .panic v, a, w => Q (.panic v) a w
theorem noOut_normal (Q : Exit → Act → World → Prop) (a : Act) (w : World) : noOut Q .normal a w = Q .normal a w := rfl
theorem wpIn_region_quiet_tail_lp {P : Program} {id : Nat} {Q : Exit → Act → World → Prop} {a : Act} {w : World} {l : List Oper} {lp m : Nat} (n : Nat) (hm : P.follows .mixedOrders = true) (hd : noDefer l.toArray = true) (hB : Region.lexTailB .any l.toArray n = true)
    (h : wpQuiet P l.toArray (fun w' => ∃ n, w' = w.drewN n) (fun a' => ∀ w', (∃ n, w' = w.drewN n) → wpList P l.toArray (noOut Q) (l.drop n) a' w') (l.take n) a) : (Code.region id l.toArray true).wpIn (Fence.wide.inRound lp) m P Q a w :=
  wpIn_mono (wpIn_region_quiet_tail n hm hd (by rintro ⟨_, _, h⟩; exact h) hB h) fun e a w h => by
    cases e <;> first | exact h | exact h.elim
/-- the pieces that come -/
def chunkV (ad : Addr) (t : Nat) : Value := .slice (some (ad.add (4 * t))) 4 4
/-- the k-th piece's number -/
def chF {c : Nat} (hc : 0 < c) (k : Nat) : Fin c := if h : k < c then ⟨k, h⟩ else ⟨0, hc⟩
theorem chF_val {c : Nat} (hc : 0 < c) {k : Nat} (h : k < c) : (chF hc k).1 = k := by unfold chF; rw [dif_pos h]
set_option maxRecDepth 100000 in
set_option maxHeartbeats 2000000 in
theorem chunk1_in (n : Nat) (hn : 1 ≤ n) (l Bs Bn n₀ g : Nat) (hBg : Bs ≠ g) (hNg : Bn ≠ g) (ad : Addr) (len c cp : Nat) (hc0 : 0 < c) (hlen : len = 4 * c) (hcp : len ≤ cp) (hreach : cp ≤ 9223372036854775807)
    (J Jx : List (Fin c) → World → Prop) (B : Nat) (hJA : AbidesFrom B J)
    (hY : ∀ pre x W, J pre W → pre.length < c → YieldAt Fence.wide (n - 1) Tryz.prog l #[chunkV ad x.1] W fun e W' =>
      (e = .returned (.bool true) ∧ J (pre ++ [x]) W' ∧ KeepBut n₀ g W W') ∨ (e = .returned (.bool false) ∧ Jx (pre ++ [x]) W'))
    (W : World) (hBs : W.cell? ⟨Bs, 0, none⟩ = some (.slice (some ad) len cp)) (hBl : Bs < n₀) (hBn : W.cell? ⟨Bn, 0, none⟩ = some (vi 4)) (hNl : Bn < n₀) (h0 : J [] W) :
    CallsIn Fence.wide n Tryz.prog 172 #[.func (.yield l) #[] #[], .pointer (some ⟨Bs, 0, none⟩), .pointer (some ⟨Bn, 0, none⟩)] W fun e W' => (∃ v, e = .returned v) ∧
      ((∃ ys, ys = upto (chF hc0) c ∧ J ys W') ∨ (∃ pre, (∃ k, k ≤ c ∧ pre = upto (chF hc0) k) ∧ Jx pre W')) := by
  refine callsIn_of_wp Tryz.func172 rfl trivial ?_ rfl
  simp only [Tryz.ntmps172, List.size_toArray, List.length_cons, List.length_nil, Nat.reduceAdd, Nat.reduceSub, Array.replicate_succ, Array.replicate_zero, List.push_toArray, List.append_toArray, List.nil_append, List.cons_append]
  have HL := Lib.hid hlen
  clear hlen
  gi_wp2
  gi_loopw [4, 5] (fun i _ wr => ∃ k : Nat, k ≤ c ∧ i = .int .i64 ((4 * k : Nat) : Int) ∧ J (upto (chF hc0) k) wr ∧ KeepBut n₀ g W wr)
    (fun i _ _ => len - (intOf i).toNat)
  case atStart => exact ⟨0, Nat.zero_le _, by go_num, h0, KeepBut.refl _ _ _⟩
  case round =>
    obtain ⟨k, hk, rfl, hJs, hnx⟩ := hrel
    have hBs' : wr.cell? ⟨Bs, 0, none⟩ = some (.slice (some ad) len cp) := (hnx.cell (p := ⟨Bs, 0, none⟩) hBl hBg).trans hBs
    have hBn' : wr.cell? ⟨Bn, 0, none⟩ = some (vi 4) := (hnx.cell (p := ⟨Bn, 0, none⟩) hNl hNg).trans hBn
    obtain ⟨q, hq⟩ : ∃ q : Nat, q = 4 * k := ⟨_, rfl⟩
    rw [← hq]
    have HQ := Lib.hid hq
    have hqc : q < 4 * c ↔ k < c := by omega
    have hl4 := HL.out
    by_cases hlt : k < c
    · have i1 : (0 : Int) ≤ (q : Int) := by omega
      have i2 : (q : Int) < (len : Int) := by omega
      have i3 : (q : Int) ≤ (len : Int) := by omega
      have i4 : (q : Int) + 4 ≤ (len : Int) := by omega
      have i5 : (4 : Int) ≤ (len : Int) - (q : Int) := by omega
      have i6 : (len : Int) ≤ (cp : Int) := by omega
      clear hq hqc hl4
      gi_wp2
      gi_quiet (fail)
      have hJq : J (upto (chF hc0) k) (wr.drewN nq) := hJA _ _ _ none hJs ⟨rfl, rfl, rfl, Nat.le_refl _, fun _ _ _ => rfl⟩ (fun r e => by cases e)
      obtain ⟨fn, tmps, assign, body, hy, hR⟩ := hY _ (chF hc0 k) (wr.drewN nq) hJq (by rw [upto_length]; exact hlt)
      rw [show chunkV ad (chF hc0 k).1 = Value.slice (some (ad.add q)) 4 4 by unfold chunkV; rw [chF_val hc0 hlt, HQ.out]] at hy
      gi_wp2
      refine hR.mono ?_
      rintro e W3 (⟨rfl, hJ3, hk3⟩ | ⟨rfl, hJx3⟩)
      · have hBn3 : W3.cell? ⟨Bn, 0, none⟩ = some (vi 4) := (hk3.cell (p := ⟨Bn, 0, none⟩) hNl hNg).trans hBn'
        gi_wp2
        have hq1 := HQ.out
        go_roundw
        case rel => exact ⟨k + 1, by omega, by rw [show ((4 * (k + 1) : Nat) : Int) = (q : Int) + 4 by omega], by rw [upto_succ]; exact hJ3, (hnx.drewN nq).trans hk3⟩
        case measure => simp [intOf]; omega
      · gi_wp2
        refine bodyPost_ret (results_none rfl _ _ _) rfl ?_
        exact ⟨⟨_, rfl⟩, .inr ⟨_, ⟨k + 1, by omega, by rw [upto_succ]⟩, hJx3⟩⟩
    · have ek : k = c := by omega
      have t1 : ¬ (q : Int) < (len : Int) := by omega
      subst ek
      clear hq hqc hl4
      gi_wp2
      go_end0
      first | exact ⟨⟨_, rfl⟩, .inl ⟨_, rfl, hJs⟩⟩ | exact ⟨⟨_, rfl⟩, .inl hJs⟩
set_option maxHeartbeats 1000000 in
theorem chunk_any (a : Option Addr) (len cap : Nat) (w : World) :
    Calls Tryz.prog 142 #[.slice a len cap, .int .i64 4] w fun e w' => e = .returned (.func (.func 172) #[] #[.pointer (some ⟨w.heap.size, 0, none⟩), .pointer (some ⟨w.heap.size + 1, 0, none⟩)]) ∧ w' = (w.alloc (.cells #[.slice a len cap] 22)).alloc (.cells #[.int .i64 4] 3) := by
  go_enter Tryz.func142, Tryz.ntmps142
  go_wp2
  go_ret
  exact ⟨rfl, rfl⟩
/-- slices.Chunk(s, 4) hands back what stops -/
theorem chunk_stops (n : Nat) (hn : 1 ≤ n) (Bs Bn n₀ g : Nat) (hBg : Bs ≠ g) (hNg : Bn ≠ g) (ad : Addr) (len c cp : Nat) (hc0 : 0 < c) (hlen : len = 4 * c) (hcp : len ≤ cp) (hreach : cp ≤ 9223372036854775807) (w : World) (hBs : Bs < w.heap.size) (hBl : Bs < n₀) (hBn : Bn < w.heap.size) (hNl : Bn < n₀)
    (hc : w.cell? ⟨Bs, 0, none⟩ = some (.slice (some ad) len cp)) (hc2 : w.cell? ⟨Bn, 0, none⟩ = some (vi 4)) :
    SeqStopsK Fence.wide n Tryz.prog 172 #[.pointer (some ⟨Bs, 0, none⟩), .pointer (some ⟨Bn, 0, none⟩)] (fun x : Fin c => #[chunkV ad x.1]) (KeepBut n₀ g) (fun ys => ys = upto (chF hc0) c)
      (fun pre => ∃ k, k ≤ c ∧ pre = upto (chF hc0) k) c w := fun l J Jx W hW hA _ hY h0 =>
  chunk1_in n hn l Bs Bn n₀ g hBg hNg ad len c cp hc0 hlen hcp hreach J Jx _ hA hY W ((hW.cell (p := ⟨Bs, 0, none⟩) hBs).trans hc) hBl ((hW.cell (p := ⟨Bn, 0, none⟩) hBn).trans hc2) hNl h0
theorem blk_kept {W W' : World} {row : Option Nat} {g : Nat} {t : TypeId} {cs : Array Value} (h : Blk W g t cs) (hg : W.grownBy W' row) (hr : ∀ r, row = some r → ∃ o : Obj, W.heap[r]? = some o ∧ o.isCells = false) : Blk W' g t cs := by
  refine (hg.block g h.lt fun e => ?_).trans h
  obtain ⟨o, ho, hc⟩ := hr g e.symm
  unfold Blk at h
  rw [h] at ho
  injection ho with ho
  subst ho
  cases hc
theorem keeps_below {W W' : World} (h : Below W.heap.size W W') : KeepsOthers W W' := ⟨h.size, fun k o hk _ => (h.block k (Array.getElem?_eq_some_iff.1 hk).1).trans hk⟩
theorem keeps_setRow {W : World} {g : Nat} {t : TypeId} {cs : Array Value} (h : Blk W g t cs) (ds : Array Value) : KeepsOthers W (W.setRow g ds) := ⟨by rw [setRow_size]; exact Nat.le_refl _, fun k o hk hc => by
  by_cases e : k = g
  · subst e
    unfold Blk at h
    rw [h] at hk
    injection hk with hk
    subst hk
    cases hc
  · exact (setRow_other W g k ds e).trans hk⟩
theorem KeepBut.below {n₀ g : Nat} {A B C : World} (h : KeepBut n₀ g A B) (hb : Below B.heap.size B C) (hn : n₀ ≤ B.heap.size) : KeepBut n₀ g A C := fun k hk hg => (hb.block k (by omega)).trans (h k hk hg)
theorem KeepBut.setRow {n₀ g : Nat} {A B : World} (h : KeepBut n₀ g A B) (cs : Array Value) : KeepBut n₀ g A (B.setRow g cs) := fun k hk hg => (setRow_other B g k cs hg).trans (h k hk hg)
/-- the state when some pieces came -/
def hashL {p c : Nat} [NeZero p] (k : Nat) (m : Nat → Fin p) (pre : List (Fin c)) : Nat → Fin p := pre.foldl (fun v x => permT k (absT v m x.1) 8) (fun _ => 0)
theorem hashL_snoc {p c : Nat} [NeZero p] (k : Nat) (m : Nat → Fin p) (pre : List (Fin c)) (x : Fin c) : hashL k m (pre ++ [x]) = permT k (absT (hashL k m pre) m x.1) 8 := by simp [hashL]
theorem hashL_upto {p c : Nat} [NeZero p] (hc : 0 < c) (k : Nat) (m : Nat → Fin p) : ∀ t, t ≤ c → hashL k m (upto (chF hc) t) = hashT k m t := by
  intro t
  induction t with
  | zero => intro _; rfl
  | succ t ih => intro ht; rw [upto_succ, hashL_snoc, ih (by omega), chF_val hc (by omega)]; rfl
/-- what Hash hands back -/
def HashIs {p : Nat} [NeZero p] (D : Nat → Fin p) (w : World) (e : Ending) (w' : World) : Prop :=
  ∃ g : Nat, e = .returned (.slice (some ⟨g, 0, none⟩) 4 4) ∧ Blk w' g 142 (st fun j => fv (D j)) ∧ w.heap.size ≤ g ∧ Below w.heap.size w w'
set_option maxRecDepth 100000 in
set_option maxHeartbeats 4000000 in
theorem hash_any (p S b s k z : Nat) [NeZero p] (oo : Nat → Nat → Fin p) (A : Option Addr) (n c : Nat) (l : List Int) (hn : l.length = n) (hI : ∀ x ∈ l, I64 x) (hr : n * 8 + 64 ≤ 140737488355328) (w : World) (F : Fld w S b p) (G : Spg w s b k z oo) (hs : SL w A l) :
    Calls Tryz.prog 102 #[.pointer (some ⟨s, 0, none⟩), .slice A n c] w fun e w' => HashIs (digE p k l) w e w' := by
  refine (callsIn_wide (n := 3)).1 ?_
  have hro : (Fence.wide).round = none := rfl
  have h1 : 1 ≤ 3 := by omega
  have hp1 := F.two
  have hp2 := F.max
  have hsl := block_lt_of_cell G.c0
  have hba : Below w.heap.size w ((w.alloc (.cells #[.pointer (some ⟨s, 0, none⟩)] 26)).alloc (.cells (st fun _ => 0) 142)) := ((Below.refl _ _).alloc (Nat.le_refl _) _).alloc (by simp) _
  have hBs := (Blk.new w 26 #[.pointer (some ⟨s, 0, none⟩)]).alloc (.cells (st fun _ => 0) 142)
  have hBx := Blk.new (w.alloc (.cells #[.pointer (some ⟨s, 0, none⟩)] 26)) 142 (st fun _ => 0)
  rw [World.size_alloc] at hBx
  have HPAD := Lib.hid (pad_new p S b s k z oo A n c l hn hI hr _ (F.below hba F.le) (G.below hba hsl) (hs.below hba))
  have hszA : ((w.alloc (.cells #[.pointer (some ⟨s, 0, none⟩)] 26)).alloc (.cells (st fun _ => 0) 142)).heap.size = w.heap.size + 2 := by simp
  obtain ⟨Wa, hWa⟩ : ∃ Wa : World, Wa = (w.alloc (.cells #[.pointer (some ⟨s, 0, none⟩)] 26)).alloc (.cells (st fun _ => 0) 142) := ⟨_, rfl⟩
  rw [← hWa] at hba hBs hBx HPAD hszA
  have HWA := Lib.hid hWa
  have hlM : (padL (fvs (els p l))).length = 4 * padC n := by rw [padC_len, show (fvs (els p l)).length = l.length by simp [fvs, els], hn]
  have hEM := fun j hj => padE_at hp1 l (j := j) hj
  obtain ⟨m, hm⟩ : ∃ m, m = padE p l := ⟨_, rfl⟩
  rw [← hm] at hEM
  obtain ⟨M, hM⟩ : ∃ M, M = padL (fvs (els p l)) := ⟨_, rfl⟩
  have hEM' : ∀ j (hj : j < M.length), M[j] = fv (m j) := by subst hM; exact hEM
  rw [← hM] at hlM HPAD
  have hdig : digE p k l = hashT k m (padC n) := by unfold digE; rw [hn, hm]
  rw [hdig]
  have hc0 : 1 ≤ padC n := by unfold padC padN; omega
  have hcn : 4 * padC n ≤ n + 4 := by unfold padC padN; omega
  obtain ⟨C, hC⟩ : ∃ C, C = padC n := ⟨_, rfl⟩
  rw [← hC] at hlM hc0 hcn ⊢
  have HLM := Lib.hid hlM
  have HEM := Lib.hid hEM'
  clear hWa hEM hEM' hM hm hlM hdig hC hs hI hn
  refine callsIn_of_wp_marks Tryz.func102 rfl trivial ?_ hro
  simp only [Tryz.ntmps102, List.size_toArray, List.length_cons, List.length_nil, Nat.reduceAdd, Nat.reduceSub, Array.replicate_succ, Array.replicate_zero, List.push_toArray, List.append_toArray, List.nil_append, List.cons_append]
  gi_wp2_with (fail)
  refine ⟨trivial, ?_⟩
  rw [← st_zero, ← HWA.out]
  refine (callsIn_wide.2 HPAD.out).mono ?_
  rintro _ w2 ⟨A2, c2, rfl, hc2, hm2, hS2, hb2, hfr⟩
  obtain ⟨len, hlen⟩ : ∃ len, len = M.length := ⟨_, rfl⟩
  rw [← hlen] at hc2 ⊢
  have hlen4 : len = 4 * C := by rw [hlen, HLM.out]
  obtain ⟨ad, rfl, had, hcM⟩ := hS2.2 (by omega)
  have HLEN := Lib.hid hlen
  have HL4 := Lib.hid hlen4
  have HCM := Lib.hid hcM
  have hfr2 := hfr ad rfl
  clear hlen hlen4 hcM hS2 hfr
  gi_wp2_with (refine ⟨trivial, ?_⟩; gi_at_call 142; refine (callsIn_wide.2 (chunk_any _ _ _ _)).mono ?_; rintro e w' ⟨rfl, rfl⟩)
  obtain ⟨W0, hW0⟩ : ∃ W0 : World, W0 = (w2.alloc (.cells #[.slice (some ad) len c2] 22)).alloc (.cells #[.int .i64 4] 3) := ⟨_, rfl⟩
  have hsz : W0.heap.size = w2.heap.size + 2 := by rw [hW0]; simp
  have hb20 : Below w2.heap.size w2 W0 := by rw [hW0]; exact ((Below.refl _ w2).alloc (Nat.le_refl _) _).alloc (by simp) _
  have hba2 := hba.trans (hb2.mono hba.size)
  have hbel : Below w.heap.size w W0 := hba2.trans (hb20.mono hba2.size)
  have hb02 := hb2.size
  have bS : Blk W0 w.heap.size 26 #[.pointer (some ⟨s, 0, none⟩)] := (Blk.below (Blk.below (HWA.out ▸ hBs) hb2 (by omega)) hb20 (by omega))
  have bX : Blk W0 (w.heap.size + 1) 142 (st fun _ => 0) := (Blk.below (Blk.below hBx hb2 (by omega)) hb20 (by omega))
  have bL : Blk W0 w2.heap.size 22 #[.slice (some ad) len c2] := by rw [hW0]; exact (Blk.new _ _ _).alloc _
  have bN : Blk W0 (w2.heap.size + 1) 3 #[.int .i64 4] := by
    rw [hW0]; have := Blk.new (w2.alloc (.cells #[.slice (some ad) len c2] 22)) 3 #[.int .i64 4]
    rw [World.size_alloc] at this; exact this
  have hcL : ∀ i, i < len → W0.cell? (ad.add i) = some (vi (fv (m i))) := fun i hi => by
    have hiM : i < M.length := by rw [← HLEN.out]; exact hi
    refine (hb20.cell (p := ad.add i) (by rw [block_of_add]; exact had)).trans ?_
    have := HCM.out i (vi M[i]) (by simp [hiM])
    rw [this, HEM.out i hiM]
  rw [← hW0]
  clear hW0
  have e00 : (st fun _ => 0) = st fun j => fv (hashL (p := p) k m ([] : List (Fin C)) j) := st_congr fun j _ => by
    show 0 = fv (0 : Fin p); rw [fv_zero]
  refine wpIn_rangeFunc_ownG hro h1 (gf := 172) (lb := #[.pointer (some ⟨w2.heap.size, 0, none⟩), .pointer (some ⟨w2.heap.size + 1, 0, none⟩)]) rfl trivial (enters_of Tryz.func172 (by kernel_rfl) rfl)
    (chunk_stops (3 - 1) (by omega) w2.heap.size (w2.heap.size + 1) (w2.heap.size + 2) (w.heap.size + 1) (by omega) (by omega) ad len C c2 hc0 HL4.out hc2 (by unfold maxLen at hm2; omega) W0 (by omega) (by omega) (by omega) (by omega) (by rw [bL.cell]; rfl) (by rw [bN.cell]; rfl))
    KeepBut.trans (KeepBut.put (by omega)) (Below.refl _ _) (fun _ => rfl)
    (fun pre W => (W.cell? ⟨w.heap.size, 0, none⟩ = some (.pointer (some ⟨s, 0, none⟩)) ∧ Blk W (w.heap.size + 1) 142 (st fun j => fv (hashL (p := p) k m pre j)) ∧ (∀ i, i < len → W.cell? (ad.add i) = some (vi (fv (m i)))) ∧ W0.heap.size ≤ W.heap.size) ∧ Below w.heap.size w W)
    (fun _ _ _ => False)
    (OwnFrom.and (Own.from (fun s A B row hs hg hr => ⟨cell_kept hs.1 hg hr, blk_kept hs.2.1 hg hr, fun i hi => cell_kept (hs.2.2.1 i hi) hg hr, Nat.le_trans hs.2.2.2 hg.size⟩) _) (ownFrom_below (Nat.le_refl _) (by omega)))
    (fun _ _ _ _ _ hs _ _ => hs)
    ⟨⟨by rw [bS.cell]; rfl, by rw [← e00]; exact bX, hcL, Nat.le_refl _⟩, hbel⟩
    (fun y => { tmps := #[.pointer (some ⟨s, 0, none⟩), .slice A n c, .pointer (some ⟨w.heap.size, 0, none⟩), undef, .slice none 0 0, .pointer (some ⟨w.heap.size + 1, 0, none⟩), .slice (some (ad.add (4 * y.1))) 4 4, undef, undef, .pointer (some ⟨s, 0, none⟩), .slice A n c, .slice (some ad) len c2, .func (.func 172) #[] #[.pointer (some ⟨w2.heap.size, 0, none⟩), .pointer (some ⟨w2.heap.size + 1, 0, none⟩)], .slice (some (ad.add (4 * y.1))) 4 4, undef, undef, undef, undef, undef, undef, undef, undef, undef, undef, undef, undef, undef, undef, undef, undef, undef, undef, undef, undef, undef, undef, undef], defers := [] }) ?assign ?body ?done ?stop
  case assign =>
    intro l y W K hK
    gi_wp2
    exact hK
  case body =>
    rintro l pre y W ⟨⟨hcs, hBx, hcM, hszW⟩, hB⟩ _
    have h1' : 1 ≤ 3 - 1 - 1 := by omega
    have hmx : Tryz.prog.follows .mixedOrders = true := by kernel_rfl
    obtain ⟨Y, hY⟩ : ∃ Y : Nat, Y = y.1 := ⟨_, rfl⟩
    have hYC : Y < C := by rw [hY]; exact y.2
    obtain ⟨V, hV⟩ : ∃ V : Nat → Fin p, V = hashL k m pre := ⟨_, rfl⟩
    rw [← hY]
    rw [← hV, show (fun j => fv (V j)) = absI V m Y 0 by rw [absI_zero]] at hBx
    have HY := Lib.hid hY
    have HV := Lib.hid hV
    have hl4 := HL4.out
    have hY4 : ∀ i, i < 4 → W.cell? (ad.add (4 * Y + i)) = some (vi (fv (m (4 * Y + i)))) := fun i hi => hcM _ (by omega)
    have HYM := Lib.hid hY4
    clear hY hV hl4 hY4
    gi_wp2
    gi_loopw [16, 7, 8] (fun t _ _ wr => ∃ i : Nat, i ≤ 4 ∧ t = vi i ∧ Blk wr (w.heap.size + 1) 142 (st (absI V m Y i)) ∧ KeepsOthers W wr ∧ KeepBut (w2.heap.size + 2) (w.heap.size + 1) W wr ∧ Below w.heap.size w wr) (fun t _ _ _ => 4 - (intOf t).toNat)
    case atStart => exact ⟨0, by omega, rfl, hBx, KeepsOthers.refl _, KeepBut.refl _ _ _, hB⟩
    case round =>
      clear hBx
      obtain ⟨i, hi, rfl, hBx, hko, hkb, hB⟩ := hrel
      by_cases hi4 : i < 4
      · have i1 : (0 : Int) ≤ (i : Int) := by omega
        have i2 : (i : Int) < 4 := by omega
        have i3 : (i : Int) < 8 := by omega
        have hbs : w.heap.size < w2.heap.size + 2 := by omega
        have hcr : wr.cell? ⟨w.heap.size, 0, none⟩ = some (.pointer (some ⟨s, 0, none⟩)) := (hkb.cell (p := ⟨w.heap.size, 0, none⟩) hbs (by show w.heap.size ≠ w.heap.size + 1; omega)).trans hcs
        have hs0 : wr.cell? ⟨s, 0, none⟩ = some (.pointer (some ⟨b, 0, none⟩)) := (hB.cell (p := ⟨s, 0, none⟩) hsl).trans G.c0
        have hc0 : wr.cell? ⟨b, 0, none⟩ = some (vi p) := (hB.cell (p := ⟨b, 0, none⟩) (Nat.lt_of_lt_of_le F.lt F.le)).trans F.c0
        have hcy : wr.cell? ((ad.add (4 * Y)).add i) = some (vi (fv (m (4 * Y + i)))) := by
          rw [add_of_add]
          exact (hkb.cell (p := ad.add (4 * Y + i)) (by rw [block_of_add]; omega) (by rw [block_of_add]; omega)).trans (HYM.out i hi4)
        have cX := hBx.at8 (show i < 8 by omega)
        have fX := hBx.frozen i
        rw [absI_at] at cX
        have hst := absI_step V m Y i
        obtain ⟨E, hE⟩ : ∃ E, E = m (4 * Y + i) := ⟨_, rfl⟩
        rw [← hE] at hcy hst
        obtain ⟨X, hX⟩ : ∃ X, X = V i := ⟨_, rfl⟩
        rw [← hX] at cX hst
        have hadd := fun W hc => add_any p hp2 b (fv X) (fv E) (i64_fv _ hp2) (i64_fv _ hp2) W hc
        rw [el_fv, el_fv] at hadd
        obtain ⟨U, hU⟩ : ∃ U, U = X + E := ⟨_, rfl⟩
        rw [← hU] at hadd hst
        have hset := fun nq => (hBx.drewN nq).set8 (show i < 8 by omega) (fv U)
        rw [hst] at hset
        have HADD := Lib.hid hadd
        have HSET := Lib.hid hset
        have HKO := Lib.hid hko
        have HKB := Lib.hid hkb
        have HB := Lib.hid hB
        clear hadd hset hst hE hX hU hBx hko hkb hB
        gi_wp2
        refine wpIn_region_quiet_tail_lp 11 hmx (by kernel_rfl) (by kernel_rfl) ?_
        simp only [List.take_succ_cons, List.take_zero, List.drop_succ_cons, List.drop_zero]
        repeat (quiet_step ((go_at_call 144; exact Calls.quiet_of (HADD.out _ (by exact hc0)))))
        refine wpQuiet_nil ?_
        intro _ hw'
        obtain ⟨nq, hw''⟩ := hw'
        subst hw''
        go_wp2
        have hq1 := HSET.out nq
        have hq2 := (HKO.out.trans (⟨Nat.le_refl _, fun _ _ h _ => h⟩ : KeepsOthers wr (wr.drewN nq))).trans (KeepsOthers.setCell (wr.drewN nq) ⟨w.heap.size + 1, i, none⟩ (vi (fv U)))
        have hq3 := (HKB.out.drewN nq).setCell (p := ⟨w.heap.size + 1, i, none⟩) rfl (vi (fv U))
        have hq4 := (below_drewN HB.out nq).setCell (p := ⟨w.heap.size + 1, i, none⟩) (by show w.heap.size ≤ w.heap.size + 1; omega) (vi (fv U))
        rw [noOut_normal]
        gi_wp2
        go_roundw
        case rel => exact ⟨i + 1, by omega, by go_num, hq1, hq2, hq3, hq4⟩
        case measure => simp [intOf]; omega
      · have ei : i = 4 := by omega
        rw [ei] at hBx
        have t4 : ¬ (i : Int) < 4 := by omega
        clear ei
        have hbs : w.heap.size < w2.heap.size + 2 := by omega
        have hcr : wr.cell? ⟨w.heap.size, 0, none⟩ = some (.pointer (some ⟨s, 0, none⟩)) := (hkb.cell (p := ⟨w.heap.size, 0, none⟩) hbs (by show w.heap.size ≠ w.heap.size + 1; omega)).trans hcs
        obtain ⟨X, hX⟩ : ∃ X, X = absI V m Y 4 := ⟨_, rfl⟩
        rw [← hX] at hBx
        have hXE : ∀ j, el p (X j) = absT V m Y j := by rw [hX]; exact fun j => absI_done V m Y j
        have hXI : ∀ j, I64 (X j) := by rw [hX]; exact fun j => i64_absI hp2 V m Y 4 j
        have x0 := hBx.at8 (show 0 < 8 by omega)
        have x1 := hBx.at8 (show 1 < 8 by omega)
        have x2 := hBx.at8 (show 2 < 8 by omega)
        have x3 := hBx.at8 (show 3 < 8 by omega)
        have x4 := hBx.at8 (show 4 < 8 by omega)
        have x5 := hBx.at8 (show 5 < 8 by omega)
        have x6 := hBx.at8 (show 6 < 8 by omega)
        have x7 := hBx.at8 (show 7 < 8 by omega)
        have HP := Lib.hid (permuted_any p S b s k z oo X hXI wr (F.below hB F.le) (G.below hB hsl))
        have hres : (st fun i => fv (permT (p := p) k (fun j => el p (X j)) 8 i)) = st fun j => fv (hashL k m (pre ++ [y]) j) := st_congr fun j hj => by
          show fv (permT k _ 8 j) = fv (hashL k m (pre ++ [y]) j)
          rw [hashL_snoc, ← HV.out, ← HY.out, permT_congr k (u := fun j => el p (X j)) (v := absT V m Y) (fun i' _ => hXE i') 8 j hj]
        rw [hres] at HP
        have HBX := Lib.hid hBx
        have HKO := Lib.hid hko
        have HKB := Lib.hid hkb
        have HB := Lib.hid hB
        obtain ⟨R, hR⟩ : ∃ R : Nat → Int, R = fun j => fv (hashL k m (pre ++ [y]) j) := ⟨_, rfl⟩
        rw [← hR] at HP
        have HR := Lib.hid hR
        rw [st_lit X] at HP
        clear hres hX hXI hXE hBx hko hkb hB hR
        gi_wp2_with (fail)
        refine ⟨trivial, (CallsIn.inRound l (callsIn_wide.2 HP.out)).mono ?_⟩
        rintro _ w3 ⟨rfl, hb3⟩
        have h3 := Blk.below HBX.out hb3 HBX.out.lt
        have HB3 := Lib.hid hb3
        clear hb3 x0 x1 x2 x3 x4 x5 x6 x7 hcr
        gi_wp2_with (refine wpListIn_plain rfl fun K hK => operIn_of_wp (by intro c h; cases h) (wp_store_row 142 _ _ rfl (w.heap.size + 1) (st R) rfl rfl _ _ h3 (info8 _) (by rw [st_size, st_size]) (st_one _) (hK _ _ ?_)))
        have hbB : Below w.heap.size w w3 := HB.out.trans (HB3.out.mono HB.out.size)
        have hkb3 : KeepBut (w2.heap.size + 2) (w.heap.size + 1) W (w3.setRow (w.heap.size + 1) (st R)) := (HKB.out.below HB3.out (by have := HKO.out.size; omega)).setRow _
        have hko3 : KeepsOthers W (w3.setRow (w.heap.size + 1) (st R)) := (HKO.out.trans (keeps_below HB3.out)).trans (keeps_setRow h3 _)
        have hBR : Blk (w3.setRow (w.heap.size + 1) (st R)) (w.heap.size + 1) 142 (st R) := setRow_heap _ _ _ _ _ _ h3
        refine ⟨hko3.from _, hkb3, ⟨(hkb3.cell (p := ⟨w.heap.size, 0, none⟩) hbs (by show w.heap.size ≠ w.heap.size + 1; omega)).trans hcs, by rw [← HR.out]; exact hBR, fun i' hi' => (hkb3.cell (p := ad.add i') (by rw [block_of_add]; omega) (by rw [block_of_add]; omega)).trans (hcM i' hi'), ?_⟩, below_setRow8 hbB (by omega) _⟩
        have := hko3.size
        omega
  case done =>
    rintro D ys W hD rfl ⟨⟨_, hBx, _, _⟩, hB⟩ hK
    rw [hashL_upto hc0 k m C (Nat.le_refl _)] at hBx
    gi_wp2
    refine ⟨by simp, .inl ⟨_, _, rfl, run_takeDeferred hK, ?_⟩⟩
    have hbD : ∀ B : Nat, B ≤ W0.heap.size → ∀ o', Below B W (W.putObj D o') := fun B hBB o' => belowK_b (n₀ := B) (w := W0) hBB W D _ o' hD hK rfl rfl
    exact ⟨_, results_tmp rfl _ _ _, w.heap.size + 1, rfl, hBx.below (hbD W0.heap.size (Nat.le_refl _) _) (by omega), by omega, hB.trans (hbD w.heap.size (by omega) _)⟩
  case stop =>
    rintro D c pre W _ _ h _
    exact h.elim
end Go.Proofs.YtijhajkakmohnaaGreatDoor

/- Several slices of ints in memory. -/
set_option linter.unusedVariables false
namespace Go.Proofs.YtijhajkakmohnaaGreatDoor
open Go.RowKit

/-- several tables in memory -/
def TB (w : World) (A0 : Option Addr) (ts : List (List Int)) : Prop :=
  ∀ k (hk : k < ts.length), ∃ ad A n c, A0 = some ad ∧ (ad.add k).block < w.heap.size ∧ w.cell? (ad.add k) = some (.slice A n c) ∧ ts[k].length = n ∧ n < 9223372036854775808 ∧ SL w A ts[k] ∧ ∀ x ∈ ts[k], I64 x
theorem TB.below {w w' : World} {A0 : Option Addr} {ts : List (List Int)} (h : TB w A0 ts) (hb : Below w.heap.size w w') : TB w' A0 ts := fun k hk => by
  obtain ⟨ad, A, n, c, h1, h2, h3, h4, h5, h6, h7⟩ := h k hk
  exact ⟨ad, A, n, c, h1, Nat.lt_of_lt_of_le h2 hb.size, (hb.cell h2).trans h3, h4, h5, h6.below hb, h7⟩
theorem TB.drewN {w : World} {A0 : Option Addr} {ts : List (List Int)} (h : TB w A0 ts) (m : Nat) : TB (w.drewN m) A0 ts := h

end Go.Proofs.YtijhajkakmohnaaGreatDoor

/- slices.Grow of nil; slices.Concat of slices of ints. -/
set_option linter.unusedVariables false
namespace Go.Proofs.YtijhajkakmohnaaGreatDoor
open Go.RowKit

set_option maxRecDepth 100000 in
set_option maxHeartbeats 2000000 in
theorem grow_nil (n : Nat) (hn : n * 8 ≤ 140737488355328) (w : World) :
    Calls Tryz.prog 175 #[.slice none 0 0, vi n] w fun e w' => Made [] w e w' := by
  rcases Nat.eq_zero_or_pos n with h0 | h0
  · subst h0
    go_enter Tryz.func175, Tryz.ntmps175
    go_wp2
    go_ret
    exact ⟨_, rfl, World.ownsRow_nil _ _ _ _, Below.refl _ _⟩
  · obtain ⟨i0, hi, hz0, hz1, hz2⟩ := info_parts info_int
    have hr := Lib.run_append_nil_zeros (P := Tryz.prog) w 22 3 22 3 i0 (.int .i64 0) .i64 .i64 Tryz.underlying22 Tryz.underlying3 hi hz0 n h0 (by omega) (by omega) (by rw [hz2]; omega)
    obtain ⟨c, hc⟩ : ∃ c, c = grownCap w n 0 3 := ⟨_, rfl⟩
    have hcm : c ≤ maxLen := by
      have := grownCap_le_maxLen w n 0 3 (by unfold maxLen; omega)
      omega
    have hge : n ≤ c := by
      have := grownCap_ge w n 0 3
      omega
    rw [← hc] at hr
    obtain ⟨cs, hcs⟩ : ∃ cs, cs = Builtin.zeroCells (Value.int .i64 0).cells n ++ Builtin.zeroCells (Value.int .i64 0).cells (c - n) := ⟨_, rfl⟩
    rw [← hcs] at hr
    have hsz : cs.size = c := by
      rw [hcs, Array.size_append, size_zeroCells, size_zeroCells]
      simp [Value.cells]
      omega
    have ho : Own (w.drew.alloc (.cells cs 3)) w.heap.size (.slice (some ⟨w.heap.size, 0, none⟩) 0 c) [] := World.ownsRow_made w.drew cs c (Nat.le_refl _) hcm (by rw [hsz, Nat.mul_one])
    have hb : Below w.heap.size w (w.drew.alloc (.cells cs 3)) := (below_drewN (Below.refl w.heap.size w) 1).alloc (Nat.le_refl _) _
    have HO := Lib.hid ho
    have HB := Lib.hid hb
    have n1 : (0 : Int) < (n : Int) := by omega
    have n2 : (n : Int) ≤ 17592186044416 := by omega
    have n3 : 0 < n := h0
    have c1 : (c : Int) ≤ 9223372036854775807 := by unfold maxLen at hcm; omega
    clear hc hcs hsz hi hz0 hz1 hz2 ho hb hcm
    go_enter Tryz.func175, Tryz.ntmps175
    go_wp2_with (at_builtin; refine Lib.wpList_append_run _ rfl _ _ _ _ rfl _ _ rfl rfl _ _ hr ?_)
    go_ret
    exact ⟨_, rfl, HO.out, HB.out⟩
theorem flat_take {ts : List (List Int)} {k : Nat} (hk : k < ts.length) : (ts.take (k + 1)).flatten = (ts.take k).flatten ++ ts[k] := by
  rw [List.take_succ_eq_append_getElem hk, List.flatten_append]; simp
theorem flat_le (ts : List (List Int)) (k : Nat) : (ts.take k).flatten.length ≤ ts.flatten.length := by
  have h := congrArg (fun l => (List.flatten l).length) (List.take_append_drop k ts)
  simp only [List.flatten_append, List.length_append] at h
  omega
set_option maxRecDepth 100000 in
set_option maxHeartbeats 2000000 in
theorem concat_any (A : Option Addr) (m c : Nat) (ts : List (List Int)) (hm : ts.length = m) (hmm : m ≤ 1000000) (htot : ts.flatten.length * 8 ≤ 140737488355328) (w : World) (hT : TB w A ts) :
    Calls Tryz.prog 146 #[.slice A m c] w fun e w' => Made ts.flatten w e w' := by
  have HT := Lib.hid hT
  have HM := Lib.hid hm
  obtain ⟨N, hN⟩ : ∃ N, N = ts.flatten.length := ⟨_, rfl⟩
  have HN := Lib.hid hN
  rw [← hN] at htot
  have HG := Lib.hid (fun w => grow_nil N htot w)
  clear hT hm hN
  go_enter Tryz.func146, Tryz.ntmps146
  go_wp2
  go_loop [3, 11, 5] (fun s t _ => ∃ k : Nat, k ≤ m ∧ t = vi k ∧ s = vi ((ts.take k).flatten.length : Nat)) (fun _ t _ => m - (intOf t).toNat)
  case atStart => exact ⟨0, by omega, rfl, by simp⟩
  case round =>
    obtain ⟨k, hk, rfl, rfl⟩ := hrel
    have hle := flat_le ts k
    rw [← HN.out] at hle
    by_cases hkm : k < m
    · obtain ⟨ad, A1, n1, c1, rfl, hb1, hc1, hl1, hn1, _, _⟩ := HT.out k (by rw [HM.out]; exact hkm)
      have hft := flat_take (ts := ts) (k := k) (by rw [HM.out]; exact hkm)
      have hft2 := congrArg List.length hft
      rw [List.length_append, hl1] at hft2
      have hle2 := flat_le ts (k + 1)
      rw [← HN.out] at hle2
      obtain ⟨S, hS⟩ : ∃ S, S = (ts.take k).flatten.length := ⟨_, rfl⟩
      rw [← hS] at hft2 hle ⊢
      have k1 : (0 : Int) ≤ (k : Int) := by omega
      have k2 : (k : Int) < (m : Int) := by omega
      have s1 : (0 : Int) ≤ (S : Int) := by omega
      have s2 : (0 : Int) ≤ (S : Int) + (n1 : Int) := by omega
      have s3 : (S : Int) + (n1 : Int) ≤ 17592186044416 := by omega
      have HF := Lib.hid hft2
      clear hft hft2 hS hl1 hle2 hb1
      go_wp2
      go_round
      case rel => exact ⟨k + 1, by omega, by go_num, by rw [HF.out]; go_num⟩
      case measure => simp [intOf]; omega
    · have ek : k = m := by omega
      have hall : (ts.take k).flatten.length = N := by rw [ek, ← HM.out, List.take_length]; exact HN.out.symm
      rw [hall]
      have t1 : ¬ (k : Int) < (m : Int) := by omega
      clear ek hall hle
      go_wp2_with fail
      refine (HG.out w).mono ?_
      rintro _ w1 ⟨v, rfl, ho, hb⟩
      go_wp2
      go_loopw [6, 27, 8] (fun v t _ wr => ∃ k : Nat, k ≤ m ∧ t = vi k ∧ Own wr w.heap.size v (ts.take k).flatten ∧ Below w.heap.size w wr) (fun _ t _ _ => m - (intOf t).toNat)
      case atStart => exact ⟨0, by omega, rfl, ho, hb⟩
      case round =>
        clear ho hb
        obtain ⟨k, hk, rfl, ho, hb⟩ := hrel
        by_cases hkm : k < m
        · obtain ⟨ad, A1, n1, c1, rfl, hb1, hc1, hl1, hn1, hs1, _⟩ := HT.out k (by rw [HM.out]; exact hkm)
          have hc1r := (hb.cell (p := ad.add k) hb1).trans hc1
          have hft := flat_take (ts := ts) (k := k) (by rw [HM.out]; exact hkm)
          have hle2 := flat_le ts (k + 1)
          have hft2 := congrArg List.length hft
          rw [List.length_append, hl1] at hft2
          rw [← HN.out] at hle2
          have hlim : (ts.take k).flatten.length + n1 ≤ 17592186044416 := by omega
          have HF := Lib.hid hft
          have HL1 := Lib.hid hl1
          have HLIM := Lib.hid hlim
          have hs1r := hs1.below hb
          have k1 : (0 : Int) ≤ (k : Int) := by omega
          have k2 : (k : Int) < (m : Int) := by omega
          clear hft hft2 hle2 hlim hl1 hb1 hc1 hs1
          go_wp2_with (at_builtin; refine wpList_appA wr rfl _ _ rfl w.heap.size _ _ A1 n1 c1 _ rfl rfl HL1.out ho hs1r HLIM.out hb.size ?_; intro v' w2 hg)
          have ho2 := hg.own
          have hb2 := hg.below hb ho (Nat.le_refl _) hb.size
          rw [← HF.out] at ho2
          exact ⟨⟨k + 1, by omega, by go_num, ho2, hb2⟩, by simp [intOf]; omega⟩
        · have ek : k = m := by omega
          have hall : (ts.take k).flatten = ts.flatten := by rw [ek, ← HM.out, List.take_length]
          rw [hall] at ho
          have t1 : ¬ (k : Int) < (m : Int) := by omega
          clear ek hall
          go_wp2
          go_ret
          exact ⟨_, rfl, ho, hb⟩
end Go.Proofs.YtijhajkakmohnaaGreatDoor

/- The walks of package chain: told, New, Take, Draw, Draws, Place, Digest, Fork. -/
set_option linter.unusedVariables false
namespace Go.Proofs.YtijhajkakmohnaaGreatDoor
open Go.RowKit Zp

/-- append(v, ys...), at a step of a region that draws its order -/
theorem step_appA {ops : Array Oper} {o : Oper} {a : Act} {K : Act → World → Prop} {Q : Exit → Act → World → Prop} {E : Prop} (w : World) (hgd : o.guard = none) (s x : Operand)
    (ho : o.op = .call { callee := .builtin .append, args := #[s, x], argTypes := #[22, 22] })
    (base : Nat) (v : Value) (xs : List Int) (A : Option Addr) (m c : Nat) (ys : List Int) (hs : a.eval s = v) (hx : a.eval x = .slice A m c) (hm : ys.length = m) (hown : Own w base v xs) (hr : SL w A ys) (hlen : xs.length + m ≤ 17592186044416) (hbase : base ≤ w.heap.size)
    (h : ∀ v' w', Grew w w' base v v' (xs ++ ys) → K (a.put o.dst v') w') :
    if Region.wanted o (yielded ops a.tmps) = true then Oper.wp Tryz.prog o a w K Q else E := by
  have hw : Region.wanted o (yielded ops a.tmps) = true := by simp [Region.wanted, hgd]
  rw [if_pos hw]
  obtain ⟨v', w', hrun, hg⟩ := run_appA w base v xs A m c ys hm hown hr hlen hbase o.type
  unfold Oper.wp execOp
  simp only [ho, resolve, invoke, builtin, Sem.run_bind, Sem.run_pure, Result.andThen_ok, List.map_toArray, List.map_cons, List.map_nil, hs, hx, hrun]
  exact h v' w' hg
theorem firstA {w w2 : World} {x : Int} (hb2 : Below (w.alloc (.cells #[vi x] 3)).drew.heap.size (w.alloc (.cells #[vi x] 3)).drew w2) : Own w2 w.heap.size (.slice (some ⟨w.heap.size, 0, none⟩) 1 1) [x] :=
  Own.below (w := (w.alloc (.cells #[vi x] 3)).drew) (own_lit w w.heap.size [x] (Nat.le_refl _) (by simp [maxLen])) hb2
theorem firstB {w w2 : World} {x : Int} (h : w.heap.size ≤ w2.heap.size) : Own (w2.alloc (.cells #[vi x] 3)) w.heap.size (.slice (some ⟨w2.heap.size, 0, none⟩) 1 1) [x] :=
  own_lit w2 w.heap.size [x] h (by simp [maxLen])
theorem below_first (w : World) (x : Int) : Below w.heap.size w (w.alloc (.cells #[vi x] 3)).drew := below_drewN ((Below.refl _ _).alloc (Nat.le_refl _) _) 1
/-- the object of a chain -/
def ChO (w : World) (c s : Nat) (v : Value) : Prop := Blk w c 129 #[.pointer (some ⟨s, 0, none⟩), v]
/-- what is left of told -/
def ToldIs {p : Nat} [NeZero p] (c s : Nat) (D : Nat → Fin p) (w : World) (e : Ending) (w' : World) : Prop :=
  (∃ r, e = .returned r) ∧ ∃ g : Nat, ChO w' c s (.slice (some ⟨g, 0, none⟩) 4 4) ∧ Blk w' g 142 (st fun j => fv (D j)) ∧ w.heap.size ≤ g ∧ w.grownBy w' (some c)
set_option maxRecDepth 100000 in
set_option maxHeartbeats 8000000 in
theorem told_c (p S b s k z c : Nat) [NeZero p] (oo : Nat → Nat → Fin p) (first : Int) (hfi : I64 first) (A : Option Addr) (m cap : Nat) (ts : List (List Int)) (hm : ts.length = m) (hmm : m ≤ 1000000) (hI : ∀ x ∈ ts.flatten, I64 x) (htot : ts.flatten.length * 8 + 80 ≤ 140737488355328) (v : Value) (w : World) (F : Fld w S b p) (G : Spg w s b k z oo) (hS : S ≤ c) (hs : s < c) (hC : ChO w c s v) (hT : TB w A ts) :
    Calls Tryz.prog 114 #[.pointer (some ⟨c, 0, none⟩), vi first, .slice A m cap] w fun e w' => ToldIs c s (digE p k (first :: ts.flatten)) w e w' := by
  have hcl := Blk.lt hC
  have hcs : w.cell? ⟨c, 0, none⟩ = some (.pointer (some ⟨s, 0, none⟩)) := (Blk.cell hC 0).trans rfl
  have HCC := Lib.hid (fun W (hW : TB W A ts) => concat_any A m cap ts hm hmm (by omega) W hW)
  have HH := Lib.hid (fun W A n cp (hA : SL W A (first :: ts.flatten)) (hn : (first :: ts.flatten).length = n) (F : Fld W S b p) (G : Spg W s b k z oo) => hash_any p S b s k z oo A n cp (first :: ts.flatten) hn (by
    intro x hx
    rcases List.mem_cons.1 hx with rfl | hx
    · exact hfi
    · exact hI x hx) (by rw [List.length_cons] at hn; omega) W F G hA)
  have HF := Lib.hid F
  have HG := Lib.hid G
  have HT := Lib.hid hT
  have HC := Lib.hid hC
  obtain ⟨L, hL⟩ : ∃ L, L = ts.flatten := ⟨_, rfl⟩
  have hLl : L.length + 1 ≤ 17592186044416 := by rw [hL]; omega
  rw [← hL] at HCC HH ⊢
  clear hL F G hT hC hm hmm hI htot
  go_enter Tryz.func114, Tryz.ntmps114
  go_wp2_with fail
  have HTA := Lib.hid (HT.out.below (below_first w first))
  have hcsA : (w.alloc (.cells #[vi first] 3)).drew.cell? ⟨c, 0, none⟩ = some (.pointer (some ⟨s, 0, none⟩)) := ((below_first w first).cell (p := ⟨c, 0, none⟩) hcl).trans hcs
  go_region_held3 (fun w' => w'.cell? ⟨c, 0, none⟩ = some (.pointer (some ⟨s, 0, none⟩))) (first | exact hcs | exact hcsA | exact (World.cell?_setCell_other _ _ _ _ (by simp)).trans ((hb4.cell (p := ⟨c, 0, none⟩) hcl).trans hcs) | exact (hb4.cell (p := ⟨c, 0, none⟩) hcl).trans hcs | exact (hb3.cell (p := ⟨c, 0, none⟩) hcl).trans hcs | exact (hb2.cell (p := ⟨c, 0, none⟩) hcl).trans hcs | go_keep) ((first
    | (go_at_call 146; refine (HCC.out _ (by first | exact HT.out | exact HTA.out)).mono ?_; rintro _ w2 ⟨v2, rfl, ho2, hb2'⟩; obtain ⟨A2, n2, c2, rfl, hl2, _, _, hs2⟩ := ho2.shapeN; have HL2 := Lib.hid hl2; have hb2 : Below w.heap.size w w2 := (by first | exact hb2' | exact ⟨hb2'.os, hb2'.tape, hb2'.output, hb2'.size, hb2'.block⟩ | exact (below_first w first).trans (hb2'.mono (below_first w first).size)); have HB2 := Lib.hid hb2'; clear hl2 ho2 hb2')
    | (refine step_appA _ (by rfl) _ _ (by rfl) w.heap.size _ [first] A2 n2 c2 L (by rfl) (by rfl) HL2.out (firstA HB2.out) hs2 (by have := HL2.out; simp; omega) hb2.size ?_; intro v3 w3 hg3; have ho3 := hg3.own; have hb3 := hg3.below hb2 (firstA HB2.out) (Nat.le_refl _) hb2.size; obtain ⟨A3, n3, c3, rfl, hl3, _, _, hs3⟩ := ho3.shapeN; have HL3 := Lib.hid hl3; clear hl3 ho3 hg3)
    | (refine step_appA _ (by rfl) _ _ (by rfl) w.heap.size _ [first] A2 n2 c2 L (by rfl) (by rfl) HL2.out (firstB hb2.size) (hs2.below ((Below.refl _ w2).alloc (Nat.le_refl _) _)) (by have := HL2.out; simp; omega) (by have := hb2.size; simp; omega) ?_; intro v3 w3 hg3; have ho3 := hg3.own; have hb3 := hg3.below (hb2.alloc hb2.size _) (firstB hb2.size) (Nat.le_refl _) (by have := hb2.size; simp; omega); obtain ⟨A3, n3, c3, rfl, hl3, _, _, hs3⟩ := ho3.shapeN; have HL3 := Lib.hid hl3; clear hl3 ho3 hg3)
    | (go_at_call 102; refine (HH.out _ A3 n3 c3 hs3 HL3.out (HF.out.below hb3 HF.out.le) (HG.out.below hb3 (by omega))).mono ?_; rintro _ w4 ⟨g, rfl, hB4, hg4, hb4'⟩; have hb4 := hb3.trans (hb4'.mono hb3.size); have hC4 := Blk.below HC.out hb4 hcl; have cc1 := Blk.cell hC4 1; have cf1 := Blk.frozen hC4 1)))
  all_goals have hs34 := hb3.size
  all_goals have hgc : g ≠ c := by omega
  all_goals have hfin : ToldIs c s (digE p k (first :: L)) w (.returned undef) (w4.setCell ⟨c, 1, none⟩ (.slice (some ⟨g, 0, none⟩) 4 4)) := ⟨⟨_, rfl⟩, g, Blk.set_ hC4 1 (.slice (some ⟨g, 0, none⟩) 4 4), hB4.far (p := ⟨c, 1, none⟩) hgc _, by omega, grownBy_trans (grown_of_below hb4 _) blk_grown⟩
  all_goals have HFIN := Lib.hid hfin
  all_goals clear hfin
  all_goals go_wp2
  all_goals go_end0
  all_goals exact ⟨⟨_, rfl⟩, HFIN.out.2⟩
/-- a chain in memory, whose digest reads D -/

def Dty (t : TypeId) : Prop := t = 3 ∨ t = 142
theorem Dty.ne {t u : TypeId} (h : Dty t) (h1 : u ≠ 3) (h2 : u ≠ 142) : t ≠ u := fun e => by
  subst e
  rcases h with h | h
  · exact h1 h
  · exact h2 h
def Chn (w : World) (c s : Nat) (D : List Int) : Prop :=
  ∃ (g cap : Nat) (t : TypeId) (cs : Array Value), ChO w c s (.slice (some ⟨g, 0, none⟩) 4 cap) ∧ Blk w g t cs ∧ Dty t ∧ SL w (some ⟨g, 0, none⟩) D ∧ D.length = 4 ∧ 4 ≤ cap ∧ cap ≤ maxLen ∧ ∀ x ∈ D, I64 x
theorem Chn.far {w w' : World} {c s x : Nat} {D : List Int} {v : Value} (h : Chn w c s D) (hx : ChO w x s v) (hg : w.grownBy w' (some x)) (hne : c ≠ x) : Chn w' c s D := by
  obtain ⟨g, cap, t, cs, h1, h2, h3, h4, h5, h6, h7, h8⟩ := h
  have hgx : g ≠ x := Blk.ne_ h2 hx (h3.ne (by decide) (by decide))
  exact ⟨g, cap, t, cs, Blk.grown h1 hg (by intro e; injection e with e; exact hne e), h2.grown hg (by intro e; injection e with e; exact hgx e), h3, h4.far hg hgx, h5, h6, h7, h8⟩
theorem Chn.below {w w' : World} {c s : Nat} {D : List Int} (h : Chn w c s D) (hb : Below w.heap.size w w') : Chn w' c s D := by
  obtain ⟨g, cap, t, cs, h1, h2, h3, h4, h5, h6, h7, h8⟩ := h
  exact ⟨g, cap, t, cs, Blk.below h1 hb (Blk.lt h1), h2.below hb h2.lt, h3, h4.below hb, h5, h6, h7, h8⟩
theorem Chn.drewN {w : World} {c s : Nat} {D : List Int} (h : Chn w c s D) (n : Nat) : Chn (w.drewN n) c s D := h
theorem Chn.lt {w : World} {c s : Nat} {D : List Int} (h : Chn w c s D) : c < w.heap.size := by
  obtain ⟨g, cap, t, cs, h1, _⟩ := h
  exact Blk.lt h1
theorem Chn.obj {w : World} {c s : Nat} {D : List Int} (h : Chn w c s D) : ∃ v, ChO w c s v := by
  obtain ⟨g, cap, t, cs, h1, _⟩ := h
  exact ⟨_, h1⟩
/-- the digest lies elsewhere -/
def DigNe (w : World) (c x : Nat) : Prop := ∃ g cap : Nat, w.cell? ⟨c, 1, none⟩ = some (.slice (some ⟨g, 0, none⟩) 4 cap) ∧ g ≠ x
/-- the digest lies in new memory -/
def DigNew (w : World) (c B : Nat) : Prop := ∃ g cap : Nat, w.cell? ⟨c, 1, none⟩ = some (.slice (some ⟨g, 0, none⟩) 4 cap) ∧ B ≤ g
theorem DigNew.ne {w : World} {c B x : Nat} (h : DigNew w c B) (hx : x < B) : DigNe w c x := by
  obtain ⟨g, cap, h1, h2⟩ := h
  exact ⟨g, cap, h1, by omega⟩
theorem DigNew.less {w : World} {c B B' : Nat} (h : DigNew w c B) (hx : B' ≤ B) : DigNew w c B' := by
  obtain ⟨g, cap, h1, h2⟩ := h
  exact ⟨g, cap, h1, by omega⟩
theorem Chn.keepX {w w' : World} {c s x : Nat} {D : List Int} (h : Chn w c s D) (hg : w.grownBy w' (some x)) (hne : c ≠ x) (hd : DigNe w c x) : Chn w' c s D := by
  obtain ⟨g, cap, t, cs, h1, h2, h3, h4, h5, h6, h7, h8⟩ := h
  obtain ⟨g', cap', hc', hgx⟩ := hd
  have : w.cell? ⟨c, 1, none⟩ = some (.slice (some ⟨g, 0, none⟩) 4 cap) := (Blk.cell h1 1).trans rfl
  rw [this] at hc'
  injection hc' with hc'
  injection hc' with e _ _
  injection e with e
  injection e with e _ _
  subst e
  exact ⟨g, cap, t, cs, Blk.grown h1 hg (by intro e; injection e with e; exact hne e), h2.grown hg (by intro e; injection e with e; exact hgx e), h3, h4.far hg hgx, h5, h6, h7, h8⟩
/-- a step of a chain -/
def StepIs (c s : Nat) (D : List Int) (w : World) (e : Ending) (w' : World) : Prop := (∃ r, e = .returned r) ∧ Chn w' c s D ∧ w.grownBy w' (some c) ∧ DigNew w' c w.heap.size
theorem i64_digL {p k : Nat} [NeZero p] (hm : p ≤ 2147483647) (l : List Int) : ∀ x ∈ digL p k l, I64 x := by
  intro x hx
  obtain ⟨j, _, rfl⟩ := List.mem_map.1 hx
  exact i64_fv _ hm
theorem ToldIs.step {p k : Nat} [NeZero p] (hm : p ≤ 2147483647) {c s : Nat} {l : List Int} {w w' : World} {e : Ending} (h : ToldIs c s (digE p k l) w e w') : StepIs c s (digL p k l) w e w' := by
  obtain ⟨hr, g, h1, h2, h3, h4⟩ := h
  exact ⟨hr, ⟨g, 4, _, _, h1, h2, .inr rfl, dig_sl h2, digL_len _ _, Nat.le_refl _, by simp [maxLen], i64_digL hm l⟩, h4, ⟨g, 4, (Blk.cell h1 1).trans rfl, h3⟩⟩
theorem tb_lit1 {w : World} {A : Option Addr} {n c : Nat} {xs : List Int} (h : SL w A xs) (hl : xs.length = n) (hn : n < 9223372036854775808) (hI : ∀ x ∈ xs, I64 x) :
    TB (w.alloc (.cells #[.slice A n c] 22)) (some ⟨w.heap.size, 0, none⟩) [xs] := fun k hk => by
  have e : k = 0 := by simp at hk; omega
  subst e
  exact ⟨_, A, n, c, rfl, by simp [Addr.add], by rw [Addr.add_mid]; exact ((Blk.new w 22 #[.slice A n c]).cell 0).trans rfl, hl, hn, h.below ((Below.refl _ _).alloc (Nat.le_refl _) _), hI⟩
theorem tb_lit2 {w : World} {A B : Option Addr} {n c m d : Nat} {xs ys : List Int} (h : SL w A xs) (hl : xs.length = n) (hn : n < 9223372036854775808) (hI : ∀ x ∈ xs, I64 x) (h' : SL w B ys) (hl' : ys.length = m) (hn' : m < 9223372036854775808) (hI' : ∀ x ∈ ys, I64 x) :
    TB (w.alloc (.cells #[.slice A n c, .slice B m d] 22)) (some ⟨w.heap.size, 0, none⟩) [xs, ys] := fun k hk => by
  have hb : Below w.heap.size w (w.alloc (.cells #[.slice A n c, .slice B m d] 22)) := (Below.refl _ _).alloc (Nat.le_refl _) _
  match k, hk with
  | 0, _ => exact ⟨_, A, n, c, rfl, by simp [Addr.add], by rw [Addr.add_mid]; exact ((Blk.new w 22 #[.slice A n c, .slice B m d]).cell 0).trans rfl, hl, hn, h.below hb, hI⟩
  | 1, _ => exact ⟨_, B, m, d, rfl, by simp [Addr.add], by rw [Addr.add_mid]; exact ((Blk.new w 22 #[.slice A n c, .slice B m d]).cell 1).trans rfl, hl', hn', h'.below hb, hI'⟩
theorem grown_alloc {w w' : World} {o : Obj} {row : Option Nat} (h : (w.alloc o).grownBy w' row) : w.grownBy w' row := grownBy_trans (World.grownBy_alloc w o row) h
set_option maxRecDepth 100000 in
set_option maxHeartbeats 4000000 in
theorem chnew_any (p S b s k z : Nat) [NeZero p] (oo : Nat → Nat → Fin p) (A : Option Addr) (n cap : Nat) (l : List Int) (hn : l.length = n) (hI : ∀ x ∈ l, I64 x) (hr : n * 8 ≤ 140737488351232) (w : World) (F : Fld w S b p) (G : Spg w s b k z oo) (hs : SL w A l) :
    Calls Tryz.prog 59 #[.pointer (some ⟨s, 0, none⟩), .slice A n cap] w fun e w' => e = .returned (.pointer (some ⟨w.heap.size, 0, none⟩)) ∧ Chn w' w.heap.size s (digL p k (2 :: l)) ∧ Below w.heap.size w w' := by
  have hsl := block_lt_of_cell G.c0
  have hb1 : Below w.heap.size w (w.alloc (.cells #[.pointer (some ⟨s, 0, none⟩), .slice none 0 0] 129)) := (Below.refl _ _).alloc (Nat.le_refl _) _
  have hC := Blk.new w 129 #[.pointer (some ⟨s, 0, none⟩), .slice none 0 0]
  obtain ⟨W, hW⟩ : ∃ W, W = w.alloc (.cells #[.pointer (some ⟨s, 0, none⟩), .slice none 0 0] 129) := ⟨_, rfl⟩
  rw [← hW] at hb1 hC
  have hWs : W.heap.size = w.heap.size + 1 := by rw [hW]; simp
  have hb2 : Below W.heap.size W (W.alloc (.cells #[.slice A n cap] 22)) := (Below.refl _ _).alloc (Nat.le_refl _) _
  have hb12 := hb1.trans (hb2.mono hb1.size)
  have ht := told_c p S b s k z w.heap.size oo 2 ⟨by omega, by omega⟩ (some ⟨W.heap.size, 0, none⟩) 1 1 [l] rfl (by omega) (by simpa using hI) (by simp; omega) (.slice none 0 0) _ (F.below hb12 F.le) (G.below hb12 hsl) F.le hsl (Blk.below hC hb2 (by omega)) (tb_lit1 (hs.below hb1) hn (by omega) hI)
  rw [show [l].flatten = l by simp] at ht
  rw [hWs] at ht
  have HT := Lib.hid (ht.mono fun e w' h => h.step F.max)
  have HB := Lib.hid hb12
  rw [hW] at HT HB
  clear ht hb1 hb2 hb12 hC hWs hW F G hs hn hI
  go_enter Tryz.func59, Tryz.ntmps59
  go_wp2_with fail
  refine (HT.out).mono ?_
  rintro _ w3 ⟨⟨r, rfl⟩, hc3, hg3, hn3⟩
  clear hn3
  have HC := Lib.hid hc3
  have HG3 := Lib.hid (HB.out.grown hg3 HB.out.size (fun k hk => by injection hk with hk; omega))
  clear hc3 hg3
  go_wp2
  go_ret
  exact ⟨rfl, HC.out, HG3.out⟩
set_option maxRecDepth 100000 in
set_option maxHeartbeats 4000000 in
theorem chtake_any (p S b s k z c : Nat) [NeZero p] (oo : Nat → Nat → Fin p) (D : List Int) (A : Option Addr) (n cap : Nat) (l : List Int) (hn : l.length = n) (hI : ∀ x ∈ l, I64 x) (hr : n * 8 ≤ 140737488351232) (w : World) (F : Fld w S b p) (G : Spg w s b k z oo) (hS : S ≤ c) (hsc : s < c) (hC : Chn w c s D) (hs : SL w A l) :
    Calls Tryz.prog 63 #[.pointer (some ⟨c, 0, none⟩), .slice A n cap] w fun e w' => StepIs c s (digL p k (3 :: (D ++ l))) w e w' := by
  have hm := F.max
  obtain ⟨g, cg, t, cs, h1, h2, h3, h4, h5, h6, h7, h8⟩ := hC
  have hcd : w.cell? ⟨c, 1, none⟩ = some (.slice (some ⟨g, 0, none⟩) 4 cg) := (Blk.cell h1 1).trans rfl
  have hb : Below w.heap.size w (w.alloc (.cells #[.slice (some ⟨g, 0, none⟩) 4 cg, .slice A n cap] 22)) := (Below.refl _ _).alloc (Nat.le_refl _) _
  have ht := told_c p S b s k z c oo 3 ⟨by omega, by omega⟩ (some ⟨w.heap.size, 0, none⟩) 2 2 [D, l] rfl (by omega) (by
    intro x hx
    simp at hx
    rcases hx with hx | hx
    · exact h8 x hx
    · exact hI x hx) (by simp; omega) _ _ (F.below hb F.le) (G.below hb (Nat.lt_trans hsc (Blk.lt h1))) hS hsc (Blk.below h1 hb (Blk.lt h1)) (tb_lit2 h4 h5 (by omega) h8 hs hn (by omega) hI)
  rw [show [D, l].flatten = D ++ l by simp] at ht
  have HT := Lib.hid (ht.mono fun e w' h => h.step hm)
  clear ht h1 h2 h3 h4 h5 h6 h7 h8 hb F G hs hn hI
  go_enter Tryz.func63, Tryz.ntmps63
  go_wp2_with fail
  refine (HT.out).mono ?_
  rintro _ w3 ⟨⟨r, rfl⟩, hc3, hg3, hn3⟩
  have HR := Lib.hid (show StepIs c s (digL p k (3 :: (D ++ l))) w (.returned undef) w3 from ⟨⟨_, rfl⟩, hc3, grown_alloc hg3, hn3.less (by simp)⟩)
  clear hc3 hg3 hn3
  go_wp2
  go_end0
  exact ⟨⟨_, rfl⟩, HR.out.2⟩
/-- a chain told its digest -/
def drawnL (p k : Nat) [NeZero p] (D : List Int) : List Int := digL p k (4 :: D)
theorem drawnL_len {p k : Nat} [NeZero p] (D : List Int) : (drawnL p k D).length = 4 := digL_len _ _
def DrawIs {p : Nat} [NeZero p] (k c s : Nat) (D : List Int) (w : World) (e : Ending) (w' : World) : Prop := e = .returned (vi ((drawnL p k D).getD 0 0)) ∧ Chn w' c s (drawnL p k D) ∧ w.grownBy w' (some c) ∧ DigNew w' c w.heap.size
set_option maxRecDepth 100000 in
set_option maxHeartbeats 4000000 in
theorem chdraw_any (p S b s k z c : Nat) [NeZero p] (oo : Nat → Nat → Fin p) (D : List Int) (w : World) (F : Fld w S b p) (G : Spg w s b k z oo) (hS : S ≤ c) (hsc : s < c) (hC : Chn w c s D) :
    Calls Tryz.prog 64 #[.pointer (some ⟨c, 0, none⟩)] w fun e w' => DrawIs (p := p) k c s D w e w' := by
  have hm := F.max
  obtain ⟨g, cg, t, cs, h1, h2, h3, h4, h5, h6, h7, h8⟩ := hC
  have hcd : w.cell? ⟨c, 1, none⟩ = some (.slice (some ⟨g, 0, none⟩) 4 cg) := (Blk.cell h1 1).trans rfl
  have hb : Below w.heap.size w (w.alloc (.cells #[.slice (some ⟨g, 0, none⟩) 4 cg] 22)) := (Below.refl _ _).alloc (Nat.le_refl _) _
  have ht := told_c p S b s k z c oo 4 ⟨by omega, by omega⟩ (some ⟨w.heap.size, 0, none⟩) 1 1 [D] rfl (by omega) (by simpa using h8) (by simp; omega) _ _ (F.below hb F.le) (G.below hb (Nat.lt_trans hsc (Blk.lt h1))) hS hsc (Blk.below h1 hb (Blk.lt h1)) (tb_lit1 h4 h5 (by omega) h8)
  rw [show [D].flatten = D by simp] at ht
  have HT := Lib.hid (ht.mono fun e w' h => h.step hm)
  clear ht h1 h2 h3 h4 h5 h6 h7 h8 hb F G
  go_enter Tryz.func64, Tryz.ntmps64
  go_wp2_with fail
  refine (HT.out).mono ?_
  rintro _ w3 ⟨⟨r, rfl⟩, hc3, hg3, hn3⟩
  obtain ⟨g, cg, t, cs, h1, h2, h3, h4, h5, h6, h7, h8⟩ := id hc3
  have hcd3 : w3.cell? ⟨c, 1, none⟩ = some (.slice (some ⟨g, 0, none⟩) 4 cg) := (Blk.cell h1 1).trans rfl
  obtain ⟨X, hX⟩ : ∃ X, X = (drawnL p k D).getD 0 0 := ⟨_, rfl⟩
  have hg0 : w3.cell? ⟨g, 0, none⟩ = some (vi X) := by
    obtain ⟨ad, ea, _, hc⟩ := SL.at_ (k := 0) h4 (by rw [h5]; omega)
    injection ea with ea
    subst ea
    rw [Addr.add_mid] at hc
    rw [hX, hc]
    simp only [drawnL, List.getD, List.getElem?_eq_getElem (show 0 < (digL p k (4 :: D)).length by rw [h5]; omega), Option.getD_some]
  have HR := Lib.hid (show DrawIs (p := p) k c s D w (.returned (vi X)) w3 from ⟨by rw [hX], hc3, grown_alloc hg3, hn3.less (by simp)⟩)
  clear hc3 hg3 hn3 h1 h2 h3 h4 h5 h6 h7 h8 hX
  go_wp2
  go_ret
  exact HR.out
/-- the number below n that a digest gives -/
def placeV (p : Nat) (D : List Int) (n : Int) : Int := (D.getD 0 0 * p + D.getD 1 0) % n
def PlaceIs {p : Nat} [NeZero p] (k c s : Nat) (D : List Int) (n : Int) (w : World) (e : Ending) (w' : World) : Prop := e = .returned (vi (placeV p (drawnL p k D) n)) ∧ Chn w' c s (drawnL p k D) ∧ w.grownBy w' (some c)
theorem digL_bounds {p k : Nat} [NeZero p] (l : List Int) {j : Nat} (hj : j < 4) : ∃ x : Fin p, (digL p k l).getD j 0 = fv x := by
  refine ⟨digE p k l j, ?_⟩
  unfold digL
  simp [List.getD, hj]
set_option maxRecDepth 100000 in
theorem chplace_no (c : Nat) (n : Int) (hn : I64 n) (h : n < 1 ∨ 65536 < n) (w : World) :
    Calls Tryz.prog 116 #[.pointer (some ⟨c, 0, none⟩), vi n] w fun e w' => e = .returned (vi 0) ∧ w = w' := by
  obtain ⟨h1, h2⟩ := hn
  rcases h with h | h
  · go_enter Tryz.func116, Tryz.ntmps116
    go_wp2
    go_ret
    exact ⟨rfl, rfl⟩
  · have h3 : 1 ≤ n := by omega
    go_enter Tryz.func116, Tryz.ntmps116
    go_wp2
    go_ret
    exact ⟨rfl, rfl⟩
set_option maxRecDepth 100000 in
set_option maxHeartbeats 4000000 in
theorem chplace_any (p S b s k z c : Nat) [NeZero p] (oo : Nat → Nat → Fin p) (D : List Int) (n : Int) (hn1 : 1 ≤ n) (hn2 : n ≤ 65536) (w : World) (F : Fld w S b p) (G : Spg w s b k z oo) (hS : S ≤ c) (hsc : s < c) (hC : Chn w c s D) :
    Calls Tryz.prog 116 #[.pointer (some ⟨c, 0, none⟩), vi n] w fun e w' => PlaceIs (p := p) k c s D n w e w' := by
  have hm := F.max
  have hd := Lib.hid (chdraw_any p S b s k z c oo D w F G hS hsc hC)
  have HF := Lib.hid F
  have HG := Lib.hid G
  have hcw := hC.lt
  clear F G hC
  go_enter Tryz.func116, Tryz.ntmps116
  go_wp2_with fail
  refine (hd.out).mono ?_
  rintro _ w3 ⟨rfl, hc3, hg3, _⟩
  obtain ⟨x0, hx0⟩ := digL_bounds (p := p) (k := k) (4 :: D) (show 0 < 4 by omega)
  obtain ⟨x1, hx1⟩ := digL_bounds (p := p) (k := k) (4 :: D) (show 1 < 4 by omega)
  have hbc : Below c w w3 := (Below.refl c w).grown hg3 (by omega) (fun k hk => by injection hk with hk; omega)
  have hF3 := HF.out.below hbc hS
  have hG3 := HG.out.below hbc hsc
  obtain ⟨g, cg, t, cs, h1, h2, h3, h4, h5, h6, h7, h8⟩ := id hc3
  have hc0 : w3.cell? ⟨c, 0, none⟩ = some (.pointer (some ⟨s, 0, none⟩)) := (Blk.cell h1 0).trans rfl
  have hcd3 : w3.cell? ⟨c, 1, none⟩ = some (.slice (some ⟨g, 0, none⟩) 4 cg) := (Blk.cell h1 1).trans rfl
  have hg1 : w3.cell? ⟨g, 1, none⟩ = some (vi (fv x1)) := by
    obtain ⟨ad, ea, _, hc⟩ := SL.at_ (k := 1) h4 (by rw [h5]; omega)
    injection ea with ea
    subst ea
    rw [Addr.add_mid] at hc
    rw [hc, ← hx1]
    simp only [drawnL, List.getD, List.getElem?_eq_getElem (show 1 < (digL p k (4 :: D)).length by rw [digL_len]; omega), Option.getD_some]
  have e0 : (drawnL p k D).getD 0 0 = fv x0 := hx0
  have e1 : (drawnL p k D).getD 1 0 = fv x1 := hx1
  rw [e0]
  have a1 := fv_nonneg x0
  have a2 := fv_lt x0
  have b1 := fv_nonneg x1
  have b2 := fv_lt x1
  obtain ⟨M, hM⟩ : ∃ M, M = fv x0 * (p : Int) := ⟨_, rfl⟩
  have m1 : 0 ≤ M := by rw [hM]; exact Int.mul_nonneg a1 (by omega)
  have m2 : M ≤ 4611686018427387904 := by
    rw [hM]
    have := Int.mul_le_mul (show fv x0 ≤ 2147483647 by omega) (show (p : Int) ≤ 2147483647 by omega) (by omega) (by omega)
    omega
  have HR := Lib.hid (show PlaceIs (p := p) k c s D n w (.returned (vi ((M + fv x1) % n))) w3 from ⟨by unfold placeV; rw [e0, e1, hM], hc3, hg3⟩)
  have HFD := Lib.hid (fun a => sfield_s s b k z oo (w3.drewN a) (hG3.below (below_drewN (Below.refl _ _) a) (block_lt_of_cell hG3.c0)))
  have HPP := Lib.hid (fun a => p_any p b (w3.drewN a) (by exact hF3.c0))
  have w1 : IntKind.i64.wrap (fv x0 * (p : Int)) = M := by rw [← hM]; exact IntWalk.i64_in _ (by omega)
  have w2 : IntKind.i64.wrap (M + fv x1) = M + fv x1 := IntWalk.i64_in _ (by omega)
  have nz : ¬ n = 0 := by omega
  have tm : (M + fv x1).tmod n = (M + fv x1) % n := Int.tmod_eq_emod_of_nonneg (by omega)
  clear hM hx0 hx1 e0 e1 hc3 hg3 hbc hF3 hG3 h1 h2 h3 h4 h5 h6 h7 h8
  go_wp2
  go_quiet ((first | (go_at_call 45; exact quiet_eq (HFD.out _)) | (go_at_call 91; exact quiet_eq (HPP.out _))))
  go_wp2
  go_ret
  obtain ⟨r1, r2, r3⟩ := HR.out
  exact ⟨r1, r2, ⟨r3.os, r3.tape, r3.output, r3.size, r3.block⟩⟩
theorem own_blk {w : World} {base g n cap : Nat} {xs : List Int} (h : Own w base (.slice (some ⟨g, 0, none⟩) n cap) xs) : ∃ cs, Blk w g 3 cs := by
  rcases h.2 with ⟨e, _⟩ | ⟨g', cap', cur, e, _, hh, _⟩
  · cases e
  · injection e with e _ _
    injection e with e
    injection e with e _ _
    subst e
    exact ⟨cur, hh⟩
def DigestIs (D : List Int) (w : World) (e : Ending) (w' : World) : Prop := Made D w e w'
theorem chdigest_any (c s : Nat) (D : List Int) (w : World) (hC : Chn w c s D) :
    Calls Tryz.prog 25 #[.pointer (some ⟨c, 0, none⟩)] w fun e w' => Made D w e w' := by
  obtain ⟨g, cg, t, cs, h1, h2, h3, h4, h5, h6, h7, h8⟩ := hC
  have hc1 : w.cell? ⟨c, 1, none⟩ = some (.slice (some ⟨g, 0, none⟩) 4 cg) := (Blk.cell h1 1).trans rfl
  have HC := Lib.hid (clone_any (some ⟨g, 0, none⟩) 4 cg D h5 (by omega) w h4)
  clear h1 h2 h3 h4 h5 h6 h7 h8
  go_enter Tryz.func25, Tryz.ntmps25
  go_wp2_with fail
  refine (HC.out).mono ?_
  rintro _ w2 ⟨v2, rfl, ho2, hb2⟩
  go_wp2
  go_ret
  exact ⟨_, rfl, ho2, hb2⟩
end Go.Proofs.YtijhajkakmohnaaGreatDoor

/- Walks of package tree: right, shows, joined, elements. -/
set_option linter.unusedVariables false
namespace Go.Proofs.YtijhajkakmohnaaGreatDoor
open Go.RowKit Zp
def rightB (n : Int) : Bool := decide (1 ≤ n ∧ n ≤ 65536)
theorem right_any (n : Int) (w : World) : Calls Tryz.prog 36 #[vi n] w fun e w' => e = .returned (.bool (rightB n)) ∧ w = w' := by
  by_cases h1 : 1 ≤ n
  · by_cases h2 : n ≤ 65536
    · have HR := Lib.hid (show rightB n = true from decide_eq_true ⟨h1, h2⟩)
      go_enter Tryz.func36, Tryz.ntmps36
      go_wp2
      go_ret
      exact ⟨ret_bool HR.out.symm, rfl⟩
    · have HR := Lib.hid (show rightB n = false from decide_eq_false (fun h => h2 h.2))
      have t1 : decide (n ≤ 65536) = false := by simpa using h2
      go_enter Tryz.func36, Tryz.ntmps36
      go_wp2
      go_ret
      exact ⟨ret_bool HR.out.symm, rfl⟩
  · have HR := Lib.hid (show rightB n = false from decide_eq_false (fun h => h1 h.1))
    have t1 : decide (1 ≤ n) = false := by simpa using h1
    go_enter Tryz.func36, Tryz.ntmps36
    go_wp2
    go_ret
    exact ⟨ret_bool HR.out.symm, rfl⟩
set_option maxRecDepth 100000 in
set_option maxHeartbeats 2000000 in
theorem shows_any (A : Option Addr) (n c : Nat) (l : List Int) (hml : l.length = n) (hn : n ≤ 65536) (hup : Asc l) (a m : Nat) (ham : a + m ≤ 65536) (w : World) (hs : SL w A l) :
    Calls Tryz.prog 109 #[Gp a (a + m), .slice A n c] w fun e w' => e = .returned (.bool (shownB l a m)) ∧ Below w.heap.size w w' := by
  have HB := Lib.hid (shown_low hup a m)
  have hle := lowB_le (a : Int) l
  have hb1 : Below w.heap.size w (w.alloc (.cells #[vi a, vi ((a : Int) + (m : Int))] 92)) := (Below.refl _ _).alloc (Nat.le_refl _) _
  have HS := Lib.hid (bsearch_any A n c l hml (by omega) hup (a : Int) _ (hs.below hb1))
  have hs1 := hs.below hb1
  have hB := Blk.new w 92 #[vi a, vi ((a : Int) + (m : Int))]
  have e0 := (hB.cell 0).trans (show _ = some (vi a) from rfl)
  have e1 := (hB.cell 1).trans (show _ = some (vi ((a : Int) + (m : Int))) from rfl)
  have HB1 := Lib.hid hb1
  obtain ⟨i, hi⟩ : ∃ i, i = lowB l (a : Int) := ⟨_, rfl⟩
  rw [← hi] at HS HB hle
  have HI := Lib.hid hi
  rw [hml] at HB hle
  by_cases h1 : i < n
  · obtain ⟨ad, rfl, hadl, hcx⟩ := hs1.at_ (k := i) (by rw [hml]; exact h1)
    have hy2 : l.getD i 0 = l[i]'(by rw [hml]; exact h1) := by rw [List.getD, List.getElem?_eq_getElem, Option.getD_some]
    rw [hy2] at HB
    generalize l[i]'(by rw [hml]; exact h1) = y at hcx HB
    have i0 : (0 : Int) ≤ (i : Int) := by omega
    have i1 : (i : Int) < (n : Int) := by omega
    have t0 : decide (i < n) = true := by simpa using h1
    by_cases h2 : y < (a : Int) + m
    · have t1 : decide (y < (a : Int) + (m : Int)) = true := by simpa using h2
      have HR := Lib.hid (show shownB l a m = true by rw [HB.out, t0, t1]; rfl)
      clear hi hml hup hs hs1 hb1 hB hy2
      go_enter Tryz.func109, Tryz.ntmps109
      go_wp2_with fail
      refine HS.out.mono ?_
      rintro e w' ⟨⟨b, rfl⟩, rfl⟩
      go_wp2
      go_quiet (fail)
      go_wp2
      go_ret
      exact ⟨ret_bool HR.out.symm, below_drewN HB1.out _⟩
    · have t1 : decide (y < (a : Int) + (m : Int)) = false := by simpa using h2
      have HR := Lib.hid (show shownB l a m = false by rw [HB.out, t0, t1]; rfl)
      clear hi hml hup hs hs1 hb1 hB hy2
      go_enter Tryz.func109, Tryz.ntmps109
      go_wp2_with fail
      refine HS.out.mono ?_
      rintro e w' ⟨⟨b, rfl⟩, rfl⟩
      go_wp2
      go_quiet (fail)
      go_wp2
      go_ret
      exact ⟨ret_bool HR.out.symm, below_drewN HB1.out _⟩
  · have t0 : decide (i < n) = false := by simpa using h1
    have t1 : decide ((i : Int) < (n : Int)) = false := by simp; omega
    have HR := Lib.hid (show shownB l a m = false by rw [HB.out, t0]; rfl)
    clear hi hml hup hs hs1 hb1 hB
    go_enter Tryz.func109, Tryz.ntmps109
    go_wp2_with fail
    refine HS.out.mono ?_
    rintro e w' ⟨⟨b, rfl⟩, rfl⟩
    go_wp2
    go_quiet (fail)
    go_wp2
    go_ret
    exact ⟨ret_bool HR.out.symm, below_drewN HB1.out _⟩
set_option maxRecDepth 100000 in
set_option maxHeartbeats 2000000 in
theorem joined_any (first : Int) (A : Option Addr) (m cap : Nat) (ts : List (List Int)) (hm : ts.length = m) (hmm : m ≤ 1000000) (htot : ts.flatten.length * 8 + 16 ≤ 140737488355328) (w : World) (hT : TB w A ts) :
    Calls Tryz.prog 103 #[vi first, .slice A m cap] w fun e w' => Made (first :: ts.flatten) w e w' := by
  have hba : Below w.heap.size w (w.alloc (.cells #[vi first] 3)) := (Below.refl _ _).alloc (Nat.le_refl _) _
  have hcc := concat_any A m cap ts hm hmm (by omega) _ (hT.below hba)
  have ho1 : Own (w.alloc (.cells #[vi first] 3)) w.heap.size (.slice (some ⟨w.heap.size, 0, none⟩) 1 1) [first] := own_lit w w.heap.size [first] (Nat.le_refl _) (by simp [maxLen])
  obtain ⟨L, hL⟩ : ∃ L, L = ts.flatten := ⟨_, rfl⟩
  have hLl : L.length + 1 ≤ 17592186044416 := by rw [hL]; omega
  rw [← hL] at hcc ⊢
  have HCC := Lib.hid hcc
  have HO1 := Lib.hid ho1
  have HBA := Lib.hid hba
  clear hL hm hmm htot hcc hT hba ho1
  go_enter Tryz.func103, Tryz.ntmps103
  go_wp2_with fail
  refine HCC.out.mono ?_
  rintro _ w2 ⟨v2, rfl, ho2, hb2⟩
  obtain ⟨A2, n2, c2, rfl, hl2, _, _, hs2⟩ := ho2.shapeN
  have ho1' := HO1.out.below hb2
  have hsz : w.heap.size ≤ w2.heap.size := by have := hb2.size; simp at this; omega
  have HL2 := Lib.hid hl2
  have HB2 := Lib.hid (HBA.out.trans (hb2.mono (by simp)))
  rw [hl2] at hLl
  clear hl2 ho2 hb2
  go_wp2_with (at_builtin; refine wpList_appA w2 rfl _ _ rfl w.heap.size _ [first] A2 n2 c2 L rfl rfl HL2.out ho1' hs2 (by simp; omega) hsz ?_; intro v3 w3 hg3)
  go_ret
  exact ⟨v3, rfl, hg3.own, hg3.below HB2.out ho1' (Nat.le_refl _) hsz⟩
def ElemsRel (p : Nat) [NeZero p] (xs : List Int) (w : World) (v i : Value) (wr : World) : Prop := ∃ k : Nat, k ≤ xs.length ∧ i = vi k ∧ Own wr w.heap.size v ((fvs (els p xs)).take k) ∧ Below w.heap.size w wr
theorem take_fvs {p : Nat} [NeZero p] {xs : List Int} {k : Nat} (hk : k < xs.length) : (fvs (els p xs)).take (k + 1) = (fvs (els p xs)).take k ++ [fv (el p xs[k])] := by
  rw [List.take_succ_eq_append_getElem (by simpa [fvs, els] using hk)]; simp [fvs, els]
set_option maxRecDepth 100000 in
set_option maxHeartbeats 2000000 in
theorem elements_any (p b : Nat) [NeZero p] (hp2 : p ≤ 2147483647) (A : Option Addr) (n cap : Nat) (xs : List Int) (hl : xs.length = n) (hxs : ∀ n ∈ xs, I64 n) (hreach : n * 8 ≤ 140737488355328) (w : World) (hs : SL w A xs) (hc : w.cell? ⟨b, 0, none⟩ = some (vi p)) :
    Calls Tryz.prog 44 #[.pointer (some ⟨b, 0, none⟩), .slice A n cap] w fun e w' => Made (fvs (els p xs)) w e w' := by
  have hmk := make_ints0 n (by omega)
  have ho0 := own_made0 w w.heap.size n (Nat.le_refl _) (by omega)
  have hb0 : Below w.heap.size w (w.alloc (.cells (zeros n) 3)) := (Below.refl _ _).alloc (Nat.le_refl _) _
  have hbl := block_lt_of_cell hc
  have HL := Lib.hid hl
  have HO0 := Lib.hid ho0
  have HB0 := Lib.hid hb0
  clear hl ho0 hb0
  go_enter Tryz.func44, Tryz.ntmps44
  go_wp2
  go_loopw [5, 7, 13] (fun v _ i wr => ElemsRel p xs w v i wr) (fun _ _ i _ => n - (intOf i).toNat)
  case atStart => exact ⟨0, Nat.zero_le _, rfl, HO0.out, HB0.out⟩
  case round =>
    obtain ⟨k, hk, rfl, hown, hb⟩ := hrel
    rw [HL.out] at hk
    by_cases hlt : k < n
    · have hkx : k < xs.length := by rw [HL.out]; exact hlt
      obtain ⟨ad, rfl, hab, hcell⟩ := (hs.below hb).at_ hkx
      have hI := hxs _ (List.getElem_mem hkx)
      have hcr := (hb.cell (p := ⟨b, 0, none⟩) hbl).trans hc
      have hts := take_fvs (p := p) hkx
      obtain ⟨x, hx⟩ : ∃ x, x = xs[k] := ⟨_, rfl⟩
      rw [← hx] at hI hcell hts
      have HX := Lib.hid hts
      have HOF := Lib.hid (of_el p hp2 b x hI wr hcr)
      clear hx hts
      have hll : ((fvs (els p xs)).take k).length ≤ k := List.length_take_le _ _
      go_wp2_with fail
      refine HOF.out.mono ?_
      rintro e w' ⟨rfl, rfl⟩
      go_wp2_with (at_builtin; refine wpList_app1 _ (fv (el p x)) rfl _ _ rfl w.heap.size _ _ rfl rfl hown (by omega) hb.size ?_; intro v' w1 hg)
      go_roundw
      case rel => exact ⟨k + 1, by rw [HL.out]; omega, by go_num, by rw [HX.out]; exact hg.own, hg.below hb hown (Nat.le_refl _) hb.size⟩
      case measure => simp [intOf]; omega
    · obtain rfl : k = n := by omega
      go_wp2
      go_ret
      rw [List.take_of_length_le (by simp [fvs, els]; rw [HL.out]; exact Nat.le_refl _)] at hown
      exact ⟨_, rfl, hown, hb⟩
end Go.Proofs.YtijhajkakmohnaaGreatDoor

/- The walk of (*Domain).Values. -/
set_option linter.unusedVariables false
namespace Go.Proofs.YtijhajkakmohnaaGreatDoor
open Go.RowKit Zp

/-- a root of a power of two: the half of its order makes -1 -/
theorem root_cond {p : Nat} [NeZero p] (hp : IsPrime p) {n : Nat} (h : SizeOk p n) {r : Fin p} (hr : Ord r n) : n = 1 ∨ ∃ m, n = 2 * m ∧ pw r m = -1 := by
  obtain ⟨⟨k, _, e⟩, _⟩ := h
  cases k with
  | zero => exact .inl e
  | succ k =>
    have e2 : n = 2 * 2 ^ k := by rw [e, Nat.pow_succ, Nat.mul_comm]
    rw [e2] at hr
    exact .inr ⟨2 ^ k, e2, ord_half hp (Nat.pow_pos (by omega)) hr⟩


/-- a slice of n ints that is read alone -/
def GivesN (n : Nat) (xs : List Int) (w : World) (e : Ending) (w' : World) : Prop := ∃ A c, xs.length = n ∧ e = .returned (.slice A n c) ∧ n ≤ c ∧ c ≤ maxLen ∧ SL w' A xs ∧ Below w.heap.size w w'
theorem Gives.n {xs : List Int} {w w' : World} {e : Ending} (h : Gives xs w e w') {n : Nat} (hn : xs.length = n) : GivesN n xs w e w' := by
  obtain ⟨A, c, h1, h2, h3, h4, h5⟩ := h
  subst hn
  exact ⟨A, c, rfl, h1, h2, h3, h4, h5⟩
theorem SL.co {p : Nat} [NeZero p] {w : World} {A : Option Addr} {l : List (Fin p)} (h : SL w A (fvs l)) {k : Nat} (hk : k < l.length) : ∃ ad, A = some ad ∧ w.cell? (ad.add k) = some (vi (fv (co l k))) := by
  obtain ⟨ad, h1, _, h2⟩ := h.at_ (k := k) (by simpa using hk)
  exact ⟨ad, h1, by rw [h2, co_of_lt hk, List.getElem_map]⟩
end Go.Proofs.YtijhajkakmohnaaGreatDoor

/- Walks: bits.Len of powers of two, sums.variables. -/
set_option linter.unusedVariables false
namespace Go.Proofs.YtijhajkakmohnaaGreatDoor
open Go.RowKit Zp

set_option maxRecDepth 1000000 in
set_option maxHeartbeats 1000000 in
theorem len64_0 (w : World) :
    Calls Tryz.prog 157 #[.int .u64 1] w fun e w' => e = .returned (vi 1) ∧ w = w' := by
  go_enter Tryz.func157, Tryz.ntmps157
  go_wp2
  go_ret
  exact ⟨ret_int (by kernel_rfl), rfl⟩
set_option maxRecDepth 1000000 in
set_option maxHeartbeats 1000000 in
theorem len64_1 (w : World) :
    Calls Tryz.prog 157 #[.int .u64 2] w fun e w' => e = .returned (vi 2) ∧ w = w' := by
  go_enter Tryz.func157, Tryz.ntmps157
  go_wp2
  go_ret
  exact ⟨ret_int (by kernel_rfl), rfl⟩
set_option maxRecDepth 1000000 in
set_option maxHeartbeats 1000000 in
theorem len64_2 (w : World) :
    Calls Tryz.prog 157 #[.int .u64 4] w fun e w' => e = .returned (vi 3) ∧ w = w' := by
  go_enter Tryz.func157, Tryz.ntmps157
  go_wp2
  go_ret
  exact ⟨ret_int (by kernel_rfl), rfl⟩
set_option maxRecDepth 1000000 in
set_option maxHeartbeats 1000000 in
theorem len64_3 (w : World) :
    Calls Tryz.prog 157 #[.int .u64 8] w fun e w' => e = .returned (vi 4) ∧ w = w' := by
  go_enter Tryz.func157, Tryz.ntmps157
  go_wp2
  go_ret
  exact ⟨ret_int (by kernel_rfl), rfl⟩
set_option maxRecDepth 1000000 in
set_option maxHeartbeats 1000000 in
theorem len64_4 (w : World) :
    Calls Tryz.prog 157 #[.int .u64 16] w fun e w' => e = .returned (vi 5) ∧ w = w' := by
  go_enter Tryz.func157, Tryz.ntmps157
  go_wp2
  go_ret
  exact ⟨ret_int (by kernel_rfl), rfl⟩
set_option maxRecDepth 1000000 in
set_option maxHeartbeats 1000000 in
theorem len64_5 (w : World) :
    Calls Tryz.prog 157 #[.int .u64 32] w fun e w' => e = .returned (vi 6) ∧ w = w' := by
  go_enter Tryz.func157, Tryz.ntmps157
  go_wp2
  go_ret
  exact ⟨ret_int (by kernel_rfl), rfl⟩
set_option maxRecDepth 1000000 in
set_option maxHeartbeats 1000000 in
theorem len64_6 (w : World) :
    Calls Tryz.prog 157 #[.int .u64 64] w fun e w' => e = .returned (vi 7) ∧ w = w' := by
  go_enter Tryz.func157, Tryz.ntmps157
  go_wp2
  go_ret
  exact ⟨ret_int (by kernel_rfl), rfl⟩
set_option maxRecDepth 1000000 in
set_option maxHeartbeats 1000000 in
theorem len64_7 (w : World) :
    Calls Tryz.prog 157 #[.int .u64 128] w fun e w' => e = .returned (vi 8) ∧ w = w' := by
  go_enter Tryz.func157, Tryz.ntmps157
  go_wp2
  go_ret
  exact ⟨ret_int (by kernel_rfl), rfl⟩
set_option maxRecDepth 1000000 in
set_option maxHeartbeats 1000000 in
theorem len64_8 (w : World) :
    Calls Tryz.prog 157 #[.int .u64 256] w fun e w' => e = .returned (vi 9) ∧ w = w' := by
  go_enter Tryz.func157, Tryz.ntmps157
  go_wp2
  go_ret
  exact ⟨ret_int (by kernel_rfl), rfl⟩
set_option maxRecDepth 1000000 in
set_option maxHeartbeats 1000000 in
theorem len64_9 (w : World) :
    Calls Tryz.prog 157 #[.int .u64 512] w fun e w' => e = .returned (vi 10) ∧ w = w' := by
  go_enter Tryz.func157, Tryz.ntmps157
  go_wp2
  go_ret
  exact ⟨ret_int (by kernel_rfl), rfl⟩
set_option maxRecDepth 1000000 in
set_option maxHeartbeats 1000000 in
theorem len64_10 (w : World) :
    Calls Tryz.prog 157 #[.int .u64 1024] w fun e w' => e = .returned (vi 11) ∧ w = w' := by
  go_enter Tryz.func157, Tryz.ntmps157
  go_wp2
  go_ret
  exact ⟨ret_int (by kernel_rfl), rfl⟩
set_option maxRecDepth 1000000 in
set_option maxHeartbeats 1000000 in
theorem len64_11 (w : World) :
    Calls Tryz.prog 157 #[.int .u64 2048] w fun e w' => e = .returned (vi 12) ∧ w = w' := by
  go_enter Tryz.func157, Tryz.ntmps157
  go_wp2
  go_ret
  exact ⟨ret_int (by kernel_rfl), rfl⟩
set_option maxRecDepth 1000000 in
set_option maxHeartbeats 1000000 in
theorem len64_12 (w : World) :
    Calls Tryz.prog 157 #[.int .u64 4096] w fun e w' => e = .returned (vi 13) ∧ w = w' := by
  go_enter Tryz.func157, Tryz.ntmps157
  go_wp2
  go_ret
  exact ⟨ret_int (by kernel_rfl), rfl⟩
end Go.Proofs.YtijhajkakmohnaaGreatDoor
