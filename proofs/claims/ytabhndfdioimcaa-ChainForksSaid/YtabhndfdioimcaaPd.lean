/- The walk of Sponge.Pad. -/
import Derived.Test.YtabhndfdioimcaaPw
import Derived.Test.YtabhndfdioimcaaApp
import Derived.Test.YtabhndfdioimcaaMk
import Derived.Test.YtabhndfdioimcaaInts
set_option linter.unusedVariables false
namespace Go.Proofs.Ytabhndfdioimcaa
open Go.RowKit Zp

theorem Own.fresh {w : World} {base n c : Nat} {A : Option Addr} {xs : List Int} (h : Own w base (.slice A n c) xs) : ∀ ad, A = some ad → base ≤ ad.block := by
  obtain ⟨A', c', e, _, _, hf, _⟩ := h.shape
  injection e with e1 _ _
  subst e1
  intro ad ea
  obtain ⟨g, rfl, hg, _⟩ := hf ad ea
  exact hg
/-- .. in new memory -/
def GivesNew (xs : List Int) (w : World) (e : Ending) (w' : World) : Prop := ∃ A c, e = .returned (.slice A xs.length c) ∧ xs.length ≤ c ∧ c ≤ maxLen ∧ SL w' A xs ∧ Below w.heap.size w w' ∧ ∀ ad, A = some ad → w.heap.size ≤ ad.block
def PadRel {p : Nat} [NeZero p] (l : List Int) (w : World) (v t : Value) (wr : World) : Prop :=
  ∃ j : Nat, j ≤ l.length ∧ t = vi j ∧ Own wr w.heap.size v ((fvs (els p l)).take j) ∧ Below w.heap.size w wr
set_option maxRecDepth 100000 in
set_option maxHeartbeats 2000000 in
theorem pad_new (p S b s k z : Nat) [NeZero p] (oo : Nat → Nat → Fin p) (A : Option Addr) (m c : Nat) (l : List Int) (hm : l.length = m) (hI : ∀ n ∈ l, I64 n) (hr : m * 8 + 64 ≤ 140737488355328) (w : World) (F : Fld w S b p) (G : Spg w s b k z oo) (hs : SL w A l) :
    Calls Try.prog 27 #[.pointer (some ⟨s, 0, none⟩), .slice A m c] w fun e w' => GivesNew (padL (fvs (els p l))) w e w' := by
  have hp2 := F.max
  have hcb := F.c0
  have hbl := block_lt_of_cell hcb
  have hs0 := G.c0
  have hsl := block_lt_of_cell hs0
  have hlen : (fvs (els p l)).length = m := by simp [fvs, els, hm]
  have HLEN := Lib.hid hlen
  have HML := Lib.hid hm
  have hmk := make_ints0 (m + 4) (by omega)
  have e4 : ((m + 4 : Nat) : Int) = (m : Int) + 4 := by omega
  rw [e4] at hmk
  clear e4
  have hO0 := own_made0 w w.heap.size (m + 4) (Nat.le_refl _) (by omega)
  have hb0 : Below w.heap.size w (w.alloc (.cells (zeros (m + 4)) 3)) := (Below.refl _ _).alloc (Nat.le_refl _) _
  clear G hlen hm
  go_enter Try.func27, Try.ntmps27
  go_wp2
  have hO : Own (w.alloc (.cells (zeros (m + 4)) 3)) w.heap.size (.slice (some ⟨w.heap.size, 0, none⟩) 0 (m + 4)) ((fvs (els p l)).take 0) := hO0
  have hb1 := hb0
  generalize World.alloc _ _ = W0 at hO hb1
  clear hO0 hb0 hmk
  go_loopw [5, 14] (fun v t wr => PadRel (p := p) l w v t wr) (fun _ t _ => m - (intOf t).toNat)
  case atStart => exact ⟨0, by omega, rfl, hO, hb1⟩
  case round =>
    clear hO hb1
    obtain ⟨j, hj, rfl, hown, hb⟩ := hrel
    have hcr := (F.below hb F.le).c0
    have hsr := (hb.cell (p := ⟨s, 0, none⟩) hsl).trans hs0
    by_cases hjm : j < m
    · have hjl : j < l.length := by rw [HML.out]; exact hjm
      obtain ⟨ad, rfl, hab, hcell⟩ := (hs.below hb).at_ hjl
      have hn := hI _ (List.getElem_mem hjl)
      have htk : (fvs (els p l)).take (j + 1) = (fvs (els p l)).take j ++ [fv (el p l[j])] := by
        rw [List.take_succ_eq_append_getElem (by rw [HLEN.out]; exact hjm)]
        simp [fvs, els]
      have hlk : ((fvs (els p l)).take j).length < 17592186044416 := by
        have := List.length_take_le j (fvs (els p l)); omega
      have HTK := Lib.hid htk
      have HLK := Lib.hid hlk
      have j1 : (0 : Int) ≤ (j : Int) := by omega
      have j2 : (j : Int) < (m : Int) := by omega
      clear htk hlk
      generalize l[j] = x at hcell hn HTK
      have hof := fun W hc => of_el p hp2 b x hn W hc
      have HOF := Lib.hid hof
      clear hof
      go_wp2_with fail
      refine (HOF.out _ (by exact hcr)).mono ?_
      rintro _ w1 ⟨rfl, hw1⟩
      have hw1' := hw1.symm
      subst hw1'
      go_wp2_with (at_builtin; refine wpList_app1 wr (fv (el p x)) rfl _ _ rfl w.heap.size _ _ rfl rfl hown HLK.out hb.size ?_; intro v' w1 hg)
      exact ⟨⟨j + 1, by omega, rfl, by rw [HTK.out]; exact hg.own, hg.below hb hown (Nat.le_refl _) hb.size⟩, by simp [intOf]; omega⟩
    · obtain ⟨L, hL⟩ : ∃ L, L = fvs (els p l) := ⟨_, rfl⟩
      have hjm' : j = m := by have := HML.out; omega
      have hLn : L.length = m := by rw [hL]; exact HLEN.out
      rw [← hL, List.take_of_length_le (by rw [hLn]; omega)] at hown
      have HL := Lib.hid hL
      have HLN := Lib.hid hLn
      have t1 : ¬ (j : Int) < (m : Int) := by omega
      have hlk : L.length < 17592186044416 := by omega
      have HLK := Lib.hid hlk
      clear hL hLn hlk hjm'
      go_wp2_with (at_builtin; refine wpList_app1 wr 1 rfl _ _ rfl w.heap.size _ _ rfl rfl hown HLK.out hb.size ?_; intro v' w1 hg)
      have hown1 := hg.own
      have hb1 := hg.below hb hown (Nat.le_refl _) hb.size
      clear hg hown hcr hsr
      go_loopw [5] (fun v wr => ∃ q : Nat, q ≤ padN m ∧ Own wr w.heap.size v (L ++ [1] ++ List.replicate q 0) ∧ Below w.heap.size w wr) (fun v _ => m + 5 - (match v with | .slice _ n _ => n | _ => 0))
      case atStart => exact ⟨0, Nat.zero_le _, by simpa using hown1, hb1⟩
      case round =>
        obtain ⟨q, hq, hown, hb⟩ := hrel
        obtain ⟨A1, n1, c1, rfl, hl1, hc1, hc2, hs1⟩ := hown.shapeN
        have HFR := Lib.hid hown.fresh
        have hn1 : n1 = m + 1 + q := by rw [← hl1]; simp [HLN.out]; omega
        have hp4 : padN m ≤ 3 := by unfold padN; omega
        have em : (n1 : Int) % 4 = ((n1 % 4 : Nat) : Int) := by omega
        have HN1 := Lib.hid hn1
        have HL1 := Lib.hid hl1
        by_cases h4 : n1 % 4 = 0
        · have tq : ((n1 : Int) % 4 != 0) = false := by rw [em, h4]; rfl
          have hqq : q = padN m := by unfold padN at *; omega
          have HQQ := Lib.hid hqq
          clear hl1 hn1 em h4 hqq
          have hm2 : c1 ≤ 9223372036854775807 := by unfold maxLen at hc2; exact hc2
          go_wp2_with fail
          refine (clip_any A1 n1 c1 hc1 hm2 _).mono ?_
          rintro _ _ ⟨rfl, rfl⟩
          go_wp2
          go_ret
          have hx : padL (fvs (els p l)) = L ++ [1] ++ List.replicate q 0 := by unfold padL; rw [← HL.out, HLN.out, ← HQQ.out]
          exact ⟨A1, n1, by rw [hx, HL1.out]; rfl, by rw [hx, HL1.out]; exact Nat.le_refl _, Nat.le_trans hc1 hc2, by rw [hx]; exact hs1, hb, HFR.out⟩
        · have tq : ((n1 : Int) % 4 != 0) = true := by rw [em, bne_iff_ne]; omega
          have hq4 : q + 1 ≤ padN m := by unfold padN at *; omega
          have hlk : (L ++ [1] ++ List.replicate q 0).length < 17592186044416 := by rw [HL1.out]; omega
          have HLK := Lib.hid hlk
          clear hl1 hn1 em h4 hlk
          go_wp2_with (at_builtin; refine wpList_app1 wr 0 rfl _ _ rfl w.heap.size _ _ rfl rfl hown HLK.out hb.size ?_; intro v' w1 hg)
          have ho := hg.own
          have hbb := hg.below hb hown (Nat.le_refl _) hb.size
          have ex : L ++ [1] ++ List.replicate q 0 ++ [0] = L ++ [1] ++ List.replicate (q + 1) 0 := by rw [List.replicate_succ', ← List.append_assoc]
          rw [ex] at ho
          clear hg hown
          obtain ⟨A2, n2, c2, rfl, h21, _, _, _⟩ := ho.shapeN
          have hn2 : n2 = m + 1 + (q + 1) := by rw [← h21]; simp [HLN.out]; omega
          have h1n := HN1.out
          exact ⟨⟨q + 1, hq4, ho, hbb⟩, by show m + 5 - n2 < m + 5 - n1; omega⟩
theorem pad_any (p S b s k z : Nat) [NeZero p] (oo : Nat → Nat → Fin p) (A : Option Addr) (m c : Nat) (l : List Int) (hm : l.length = m) (hI : ∀ n ∈ l, I64 n) (hr : m * 8 + 64 ≤ 140737488355328) (w : World) (F : Fld w S b p) (G : Spg w s b k z oo) (hs : SL w A l) :
    Calls Try.prog 27 #[.pointer (some ⟨s, 0, none⟩), .slice A m c] w fun e w' => Gives (padL (fvs (els p l))) w e w' :=
  (pad_new p S b s k z oo A m c l hm hI hr w F G hs).mono fun _ _ h => by
    obtain ⟨A, c, h1, h2, h3, h4, h5, _⟩ := h
    exact ⟨A, c, h1, h2, h3, h4, h5⟩
end Go.Proofs.Ytabhndfdioimcaa
