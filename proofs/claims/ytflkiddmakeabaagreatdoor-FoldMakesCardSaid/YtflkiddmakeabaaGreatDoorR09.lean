/- A bundle of texts: Ry, Pl3, Ss, Oa, LawN1, Nd, Ne, Nh, Row5, Sh5, Fk, Be, Rnd, Fl. -/
import Derived.Test.YtflkiddmakeabaaGreatDoorR08
import Derived.Test.YtflkiddmakeabaaGreatDoorR07
import Derived.Deep.QuietTactic
import Derived.BigQuiet
import Derived.Test.YtflkiddmakeabaaGreatDoorR03
import Derived.Test.YtflkiddmakeabaaGreatDoorR04
import Derived.Test.YtflkiddmakeabaaGreatDoorR05
import Derived.Lib.SmallJoins
import Derived.ChangeOld
import Derived.Below
import Derived.OpenShut
import Derived.Test.YtflkiddmakeabaaGreatDoorR00
import Derived.Test.YtflkiddmakeabaaGreatDoorR01
import Derived.Test.YtflkiddmakeabaaGreatDoorR06
/- Plain: the document's check of an Opening is the program's. And the walk of the reference's Check. -/
set_option linter.unusedVariables false
namespace Go.Proofs.YtflkiddmakeabaaGreatDoor
open Go.RowKit Zp
theorem digL_congr {p k : Nat} [NeZero p] {l m : List Int} (h : els p l = els p m) : digL p k l = digL p k m := by
  have hl : l.length = m.length := by simpa [els] using congrArg List.length h
  unfold digL digE padE
  rw [h, hl]
end Go.Proofs.YtflkiddmakeabaaGreatDoor

/- law3.plain: a sponge, or none. -/
set_option linter.unusedVariables false
namespace Go.Proofs.YtflkiddmakeabaaGreatDoor
open Go.RowKit Zp

set_option maxHeartbeats 2000000 in
theorem spnew_none (p S b : Nat) [NeZero p] (h23 : p < 23) (w : World) (F : Fld w S b p) :
    Calls Tryz.prog 71 #[.pointer (some ⟨b, 0, none⟩)] w fun e w' => e = .returned (.tuple #[.pointer none, .iface 98 (.int .i64 3)]) ∧ w = w' := by
  have hcb := F.c0
  have tq : ((p : Int) < 23) = True := by simp; omega
  go_enter Tryz.func71, Tryz.ntmps71
  go_wp2_with (go_at_call 67; refine (p_any p b _ (by exact hcb)).mono ?_; rintro _ _ ⟨rfl, rfl⟩)
  go_ret2
  exact ⟨rfl, rfl⟩
end Go.Proofs.YtflkiddmakeabaaGreatDoor

/- same.Sponge: a sponge, as far as there is one, and that the program says so too. -/
set_option linter.unusedVariables false
namespace Go.Proofs.YtflkiddmakeabaaGreatDoor
open Go.RowKit Zp

/-- is there a sponge? -/
def HasSponge (p : Int) : Prop := HasField p ∧ 23 ≤ p
def NoSponge (w : World) (e : Ending) (w' : World) : Prop := SaysW (.tuple #[.pointer none, .bool true]) w e w'
theorem ssponge_no (p : Int) (hp : I64 p) (h : ¬ HasSponge p) (w : World) (hT : Typed w) :
    Calls Tryz.prog 21 #[vi p] w fun e w' => NoSponge w e w' := by
  by_cases hf : HasField p
  · obtain ⟨n, rfl⟩ := Int.eq_ofNat_of_zero_le (a := p) (by have := hf.1; omega)
    have hpn : IsPrime n := by simpa using hf.2.2
    haveI := hpn.ne
    have h23 : n < 23 := by
      rcases Nat.lt_or_ge n 23 with h1 | h1
      · exact h1
      · exact absurd ⟨hf, by omega⟩ h
    have HF := Lib.hid (sfield_yes n (by have := hf.1; omega) (by have := hf.2.1; omega) hpn w hT)
    have HS := Lib.hid (fun S b W F => spnew_none n S b h23 W F)
    have he := fun W hT => error_any 3 3 W hT
    rw [errV_ne (by decide), show ((3 : Int) == 3) = true from rfl] at he
    have HE := Lib.hid he
    have t1 : ¬ (23 : Int) ≤ (n : Int) := by omega
    clear he hf h hpn h23
    go_enter Tryz.func21, Tryz.ntmps21
    go_wp2_with fail
    refine (HF.out).mono ?_
    rintro e w1 ⟨b, rfl, F, hb1⟩
    go_wp2_with fail
    refine (HS.out _ _ _ F).mono ?_
    rintro e _ ⟨rfl, rfl⟩
    go_wp2_with fail
    refine (HE.out _ (hT.below hb1)).mono ?_
    rintro e w2 ⟨rfl, hb2⟩
    go_wp2
    go_ret2
    exact ⟨rfl, hb1.trans (hb2.mono hb1.size)⟩
  · have HF := Lib.hid (sfield_no p hp hf w hT)
    clear hf h
    go_enter Tryz.func21, Tryz.ntmps21
    go_wp2_with fail
    refine (HF.out).mono ?_
    rintro e w1 ⟨rfl, hb1⟩
    go_wp2
    go_ret2
    exact ⟨rfl, hb1⟩
def YesSponge (q : Nat) [NeZero q] (w : World) (e : Ending) (w' : World) : Prop :=
  ∃ (s b k z : Nat) (oo : Nat → Nat → Fin q), e = .returned (.tuple #[.pointer (some ⟨s, 0, none⟩), .bool true]) ∧ Fld w' w'.heap.size b q ∧ Spg w' s b k z oo ∧ w.heap.size ≤ s ∧ s < w'.heap.size ∧ Below w.heap.size w w'
theorem ssponge_yes (q : Nat) [NeZero q] (h23 : 23 ≤ q) (hm : q ≤ 2147483647) (hpr : IsPrime q) (w : World) (hT : Typed w) :
    Calls Tryz.prog 21 #[vi q] w fun e w' => YesSponge q w e w' := by
  have HF := Lib.hid (sfield_yes q (by omega) hm hpr w hT)
  have HS := Lib.hid (fun S b W F => spnew_any q S b h23 W F)
  have he := fun W hT => error_any 0 0 W hT
  rw [errV_zero, show ((0 : Int) == 0) = true from rfl] at he
  have HE := Lib.hid he
  have t1 : (23 : Int) ≤ (q : Int) := by omega
  clear he hpr h23
  go_enter Tryz.func21, Tryz.ntmps21
  go_wp2_with fail
  refine (HF.out).mono ?_
  rintro e w1 ⟨b, rfl, F, hb1⟩
  go_wp2_with fail
  refine (HS.out _ _ _ F).mono ?_
  rintro e w2 ⟨rfl, ⟨k, z, oo, G⟩, hb2⟩
  have hb12 := hb1.trans (hb2.mono hb1.size)
  have hsl := block_lt_of_cell G.c0
  go_wp2_with fail
  refine (HE.out _ (hT.below hb12)).mono ?_
  rintro e w3 ⟨rfl, hb3⟩
  go_wp2
  go_ret2
  exact ⟨_, b, k, z, oo, rfl, (F.below hb2 (Nat.le_refl _) |>.moreS hb2.size (Nat.le_refl _)).below hb3 (Nat.le_refl _) |>.moreS hb3.size (Nat.le_refl _), G.below hb3 hsl, hb1.size, Nat.lt_of_lt_of_le hsl hb3.size, hb12.trans (hb3.mono hb12.size)⟩
end Go.Proofs.YtflkiddmakeabaaGreatDoor

/- Arguments that are structs of slices: each field opened. -/
set_option linter.unusedVariables false
namespace Go.Proofs.YtflkiddmakeabaaGreatDoor
open Go.RowKit Go.ChangeShapes Go.WideShapes Go.ChangeAt

end Go.Proofs.YtflkiddmakeabaaGreatDoor

/- The walk of the law TreeChecks. -/
set_option linter.unusedVariables false
namespace Go.Proofs.YtflkiddmakeabaaGreatDoor
open Go.RowKit Zp
end Go.Proofs.YtflkiddmakeabaaGreatDoor

/- The reference's Root and Nodes. -/
set_option linter.unusedVariables false
namespace Go.Proofs.YtflkiddmakeabaaGreatDoor
open Go.RowKit Zp
theorem rootD_shift {H : List Int → List Int} {r r' : Nat → List Int} {j : Nat} : ∀ (n a : Nat), (∀ i, a ≤ i → i < a + n → r i = r' (i + j)) → 1 ≤ n → rootD H r a n = rootD H r' (a + j) n := by
  intro n
  induction n using Nat.strongRecOn with
  | ind n ih =>
    intro a h hn
    by_cases h2 : 2 ≤ n
    · have hl := leftN_lt h2
      rw [rootD_two H r a h2, rootD_two H r' (a + j) h2, ih (leftN n) (by omega) a (fun i h1 h2 => h i h1 (by omega)) (by omega), ih (n - leftN n) (by omega) (a + leftN n) (fun i h1 h2 => h i (by omega) (by omega)) (by omega)]
      rw [show a + leftN n + j = a + j + leftN n by omega]
    · have e : n = 1 := by omega
      subst e
      rw [rootD_one H r a h2, rootD_one H r' (a + j) h2, h a (Nat.le_refl _) (by omega)]
theorem rowF_take {ls : List (List Int)} {i j : Nat} (h : i < j) : rowF (ls.take j) i = rowF ls i := by
  unfold rowF
  rw [List.getD_eq_getElem?_getD, List.getD_eq_getElem?_getD, List.getElem?_take, if_pos h]
theorem rowF_drop {ls : List (List Int)} {i j : Nat} : rowF (ls.drop j) i = rowF ls (i + j) := by
  unfold rowF
  rw [List.getD_eq_getElem?_getD, List.getD_eq_getElem?_getD, List.getElem?_drop, Nat.add_comm]
theorem rootD_halves {H : List Int → List Int} {ls : List (List Int)} {n : Nat} (h2 : 2 ≤ n) : rootD H (rowF ls) 0 n = H (1 :: (rootD H (rowF (ls.take (leftN n))) 0 (leftN n) ++ rootD H (rowF (ls.drop (leftN n))) 0 (n - leftN n))) := by
  have hl := leftN_lt h2
  rw [rootD_two H _ 0 h2, rootD_shift (r := rowF (ls.take (leftN n))) (r' := rowF ls) (j := 0) (leftN n) 0 (fun i _ hi => by rw [rowF_take (by omega)]; rfl) (by omega),
    rootD_shift (r := rowF (ls.drop (leftN n))) (r' := rowF ls) (j := leftN n) (n - leftN n) 0 (fun i _ hi => by rw [rowF_drop]) (by omega)]
theorem TB.take {w : World} {A : Option Addr} {ls : List (List Int)} (h : TB w A ls) (j : Nat) : TB w A (ls.take j) := fun k hk => by
  have hk' : k < ls.length := by rw [List.length_take] at hk; omega
  obtain ⟨ad, A1, n, c, h1, h2, h3, h4, h5⟩ := h k hk'
  have e : (ls.take j)[k] = ls[k] := by simp
  rw [e]
  exact ⟨ad, A1, n, c, h1, h2, h3, h4, h5⟩
theorem TB.drop {w : World} {ad : Addr} {ls : List (List Int)} (h : TB w (some ad) ls) (j : Nat) : TB w (some (ad.add j)) (ls.drop j) := fun k hk => by
  have hk' : j + k < ls.length := by rw [List.length_drop] at hk; omega
  obtain ⟨ad', A1, n, c, h1, h2, h3, h4, h5⟩ := h (j + k) hk'
  injection h1 with h1
  subst h1
  have e : (ls.drop j)[k] = ls[j + k] := by simp
  rw [e]
  exact ⟨ad.add j, A1, n, c, rfl, by rw [add_of_add]; exact h2, by rw [add_of_add]; exact h3, h4, h5⟩
/-- a digest, in a block of ints -/
def RRootIs (l : List Int) (w : World) (e : Ending) (w' : World) : Prop :=
  ∃ g cap : Nat, e = .returned (.slice (some ⟨g, 0, none⟩) 4 cap) ∧ (∃ cs, Blk w' g 3 cs) ∧ SL w' (some ⟨g, 0, none⟩) l ∧ l.length = 4 ∧ (∀ x ∈ l, I64 x) ∧ w.heap.size ≤ g ∧ Below w.heap.size w w'
theorem DigIs.root {p k : Nat} [NeZero p] (hm : p ≤ 2147483647) {l : List Int} {w w' : World} {e : Ending} (h : DigIs p k l w e w') : RRootIs (digL p k l) w e w' := by
  obtain ⟨g, cap, cs, h1, h2, h3, h4, h5, h6, h7⟩ := h
  exact ⟨g, cap, h1, ⟨cs, h5⟩, h4, digL_len _ _, i64_digL hm l, h6, h7⟩
set_option maxRecDepth 100000 in
set_option maxHeartbeats 1000000 in
theorem rroot_any (p k : Nat) [NeZero p] (PK : Pk p k) : ∀ (n : Nat), 1 ≤ n → n ≤ 65536 → ∀ (A : Option Addr) (c : Nat) (ls : List (List Int)), ls.length = n → n ≤ c → (∀ t ∈ ls, t.length * 8 ≤ 140737488351232) → ∀ (w : World), TB w A ls →
    Calls Tryz.prog 61 #[vi p, .slice A n c] w (RRootIs (rootD (digL p k) (rowF ls) 0 n) w) := by
  intro n
  induction n using Nat.strongRecOn with
  | ind n ih =>
    intro h1 hn A c ls hls hnc hR w hT
    obtain ⟨ad, A1, n1, c1, rfl, hb1, hc1, hl1, hn1, hs1, hi1⟩ := hT 0 (by omega)
    by_cases h2 : 2 ≤ n
    · have hlf := leftN_lt h2
      rw [rootD_halves h2]
      obtain ⟨j, hj⟩ : ∃ j, j = leftN n := ⟨_, rfl⟩
      rw [← hj] at hlf ⊢
      obtain ⟨hj1, hj2, hj3⟩ := hlf
      have hlc := fun w => rleft_any n h2 hn w
      rw [← hj] at hlc
      have HLC := Lib.hid hlc
      have HI1 := Lib.hid (fun w hT => ih j (by omega) (by omega) (by omega) (some ad) c (ls.take j) (by rw [List.length_take]; omega) (by omega) (fun t ht => hR t (List.mem_of_mem_take ht)) w hT)
      have HI2 := Lib.hid (fun w hT => ih (n - j) (by omega) (by omega) (by omega) (some (ad.add j)) (c - j) (ls.drop j) (by rw [List.length_drop]; omega) (by omega) (fun t ht => hR t (List.mem_of_mem_drop ht)) w hT)
      have HTA := Lib.hid (hT.take j)
      have HTD := Lib.hid (hT.drop j)
      have t1 : ((n : Int) == 1) = false := by simp; omega
      have t2 : (n : Int) ≤ (c : Int) := by omega
      have t3 : (j : Int) ≤ (n : Int) := by omega
      have t4 : (j : Int) ≤ (c : Int) := by omega
      have t5 : ¬ c = j := by omega
      obtain ⟨d1, hd1⟩ : ∃ d, d = rootD (digL p k) (rowF (ls.take j)) 0 j := ⟨_, rfl⟩
      obtain ⟨d2, hd2⟩ : ∃ d, d = rootD (digL p k) (rowF (ls.drop j)) 0 (n - j) := ⟨_, rfl⟩
      rw [← hd1] at HI1 ⊢
      rw [← hd2] at HI2 ⊢
      clear hd1 hd2 ih hls hR hT hc1 hl1 hs1 hi1 hb1 hn1 hj hlc
      go_enter Tryz.func61, Tryz.ntmps61
      go_wp2_with fail
      refine (HLC.out _).mono ?_
      rintro _ _ ⟨rfl, rfl⟩
      go_wp2_with fail
      refine (HI1.out _ HTA.out).mono ?_
      rintro _ w1 ⟨g1, cp1, rfl, x1, s1, l1, i1, n1, b1⟩
      have HX1 := Lib.hid (And.intro s1 (And.intro l1 (And.intro i1 b1)))
      clear x1 s1 l1 i1 b1
      go_wp2_with fail
      refine (HI2.out w1 (HTD.out.below HX1.out.2.2.2)).mono ?_
      rintro _ w2 ⟨g2, cp2, rfl, x2, s2, l2, i2, n2, b2⟩
      have hs1 := HX1.out.1.below b2
      have HN := Lib.hid (rnode_any p k PK (some ⟨g1, 0, none⟩) (some ⟨g2, 0, none⟩) 4 4 cp1 cp2 d1 d2 HX1.out.2.1 l2 (by omega) (by omega) HX1.out.2.2.1 i2 w2 hs1 s2)
      have HB2 := Lib.hid (HX1.out.2.2.2.trans (b2.mono HX1.out.2.2.2.size))
      have HM := Lib.hid PK.pm
      clear x2 s2 l2 i2 n2 b2 hs1
      go_wp2_with fail
      refine HN.out.mono ?_
      rintro _ w3 hd
      obtain ⟨g, cap, rfl, hx, hs, hl, hi, hn, hb⟩ := hd.root HM.out
      have HFIN : Hid (RRootIs (digL p k (1 :: (d1 ++ d2))) w (.returned (.slice (some ⟨g, 0, none⟩) 4 cap)) w3) := Lib.hid ⟨g, cap, rfl, hx, hs, hl, hi, Nat.le_trans HB2.out.size hn, HB2.out.trans (hb.mono HB2.out.size)⟩
      clear hd hx hs hl hi hn hb
      go_wp2
      go_ret
      exact HFIN.out
    · have e : n = 1 := by omega
      subst e
      rw [rootD_one _ _ _ h2, show rowF ls 0 = ls[0]'(by omega) from rowF_at (by omega)]
      have hrl := hR _ (List.getElem_mem (show 0 < ls.length by omega))
      rw [show ad.add 0 = ad by simp [Addr.add]] at hb1 hc1
      generalize ls[0]'(by omega) = x at hl1 hs1 hi1 hrl
      have HLF := Lib.hid (rleaf_any p k PK A1 n1 c1 x hl1 hi1 (by omega) w hs1)
      have HM := Lib.hid PK.pm
      clear hl1 hs1 hi1 hrl hb1 hn1 hT hR hls ih h2
      go_enter Tryz.func61, Tryz.ntmps61
      go_wp2_with fail
      refine HLF.out.mono ?_
      rintro _ w1 hd
      have hr := hd.root HM.out
      obtain ⟨g, cap, rfl, hx⟩ := hr
      have HFIN : Hid (RRootIs (digL p k (0 :: x)) w (.returned (.slice (some ⟨g, 0, none⟩) 4 cap)) w1) := Lib.hid ⟨g, cap, rfl, hx⟩
      clear hd hx
      go_wp2
      go_ret
      exact HFIN.out
/-- rows of four numbers, each in a block that is none of rows -/
def UsAt (w : World) (us : List Value) (ls : List (List Int)) : Prop :=
  us.length = ls.length ∧ ∀ k (h : k < us.length) (h' : k < ls.length), ∃ (g c : Nat) (t : TypeId) (cs : Array Value), us[k] = .slice (some ⟨g, 0, none⟩) 4 c ∧ Blk w g t cs ∧ t ≠ 22 ∧ (t = 3 ∨ t = 153) ∧ SL w (some ⟨g, 0, none⟩) ls[k] ∧ ls[k].length = 4 ∧ ∀ x ∈ ls[k], I64 x
theorem UsAt.nil (w : World) : UsAt w [] [] := ⟨rfl, fun k h => absurd h (by simp)⟩
theorem UsAt.below {w w' : World} {us : List Value} {ls : List (List Int)} (h : UsAt w us ls) (hb : Below w.heap.size w w') : UsAt w' us ls := ⟨h.1, fun k h1 h2 => by
  obtain ⟨g, c, t, cs, e1, e2, e3, e4, e5, e6⟩ := h.2 k h1 h2
  exact ⟨g, c, t, cs, e1, Blk.below e2 hb e2.lt, e3, e4, e5.below hb, e6⟩⟩
theorem UsAt.app {w : World} {us vs : List Value} {ls ms : List (List Int)} (h : UsAt w us ls) (h' : UsAt w vs ms) : UsAt w (us ++ vs) (ls ++ ms) := by
  refine ⟨by rw [List.length_append, List.length_append, h.1, h'.1], fun k h1 h2 => ?_⟩
  by_cases hk : k < us.length
  · rw [List.getElem_append_left hk, List.getElem_append_left (by rw [← h.1]; exact hk)]
    exact h.2 k hk (by rw [← h.1]; exact hk)
  · rw [List.length_append] at h1
    rw [List.getElem_append_right (by omega), List.getElem_append_right (by rw [← h.1]; omega)]
    have e : k - ls.length = k - us.length := by rw [h.1]
    simp only [e]
    exact h'.2 (k - us.length) (by omega) (by rw [← h'.1]; omega)
theorem UsAt.one {w : World} {g c : Nat} {t : TypeId} {cs : Array Value} {l : List Int} (h1 : Blk w g t cs) (h2 : t ≠ 22) (h3 : t = 3 ∨ t = 153) (h4 : SL w (some ⟨g, 0, none⟩) l) (h5 : l.length = 4) (h6 : ∀ x ∈ l, I64 x) : UsAt w [.slice (some ⟨g, 0, none⟩) 4 c] [l] :=
  ⟨rfl, fun k hk hk' => by
    have e : k = 0 := by simp at hk; omega
    subst e
    exact ⟨g, c, t, cs, rfl, h1, h2, h3, h4, h5, h6⟩⟩
/-- kept while a block of rows, or the struct, is turned -/
theorem UsAt.far {w w' : World} {us : List Value} {ls : List (List Int)} {x : Nat} {tx : TypeId} {cx : Array Value} (h : UsAt w us ls) (hx : Blk w x tx cx) (ht : tx = 22 ∨ tx = 70) (hg : w.grownBy w' (some x)) : UsAt w' us ls := ⟨h.1, fun k h1 h2 => by
  obtain ⟨g, c, t, cs, e1, e2, e3, e4, e5, e6⟩ := h.2 k h1 h2
  have hgx : g ≠ x := Blk.ne_ e2 hx (by
    rcases ht with rfl | rfl
    · exact e3
    · rcases e4 with rfl | rfl <;> decide)
  exact ⟨g, c, t, cs, e1, Blk.grown e2 hg (by intro e; injection e with e; exact hgx e), e3, e4, e5.far hg hgx, e6⟩⟩
theorem ownR_blk {w : World} {base : Nat} {v : Value} {us : List Value} (h : OwnR w base v us) {g : Nat} (hg : v.ownBlock = some g) : ∃ cs, Blk w g 22 cs := by
  rcases h.2 with ⟨rfl, _⟩ | ⟨g', cap, cur, rfl, _, hh, _⟩
  · cases hg
  · injection hg with hg
    subst hg
    exact ⟨cur, hh⟩
theorem UsAt.grew {w w' : World} {base : Nat} {v v' : Value} {us vs ws : List Value} {ls : List (List Int)} (h : GrewR w w' base v v' us) (ho : OwnR w base v vs) (hr : UsAt w ws ls) : UsAt w' ws ls := by
  rcases hv : v.ownBlock with _ | g
  · have hg := h.grown
    rw [hv] at hg
    exact hr.below ⟨hg.os, hg.tape, hg.output, hg.size, fun i hi => hg.block i hi (by intro e; cases e)⟩
  · obtain ⟨cs, hcs⟩ := ownR_blk ho hv
    exact hr.far hcs (.inl rfl) (by rw [← hv]; exact h.grown)
theorem tb_us {w : World} {base : Nat} {A : Option Addr} {n c : Nat} {us : List Value} {ls : List (List Int)} (h : OwnR w base (.slice A n c) us) (hr : UsAt w us ls) : TB w A ls := fun k hk => by
  have hku : k < us.length := by rw [hr.1]; exact hk
  have hn : us.length = n := by
    rcases h.2 with ⟨e, h0⟩ | ⟨g, cap, cur, e, _⟩
    · injection e with _ e2 _; omega
    · injection e with _ e2 _; exact e2.symm
  subst hn
  have hrd := Reads.of_own h
  obtain ⟨ad, u, e1, e2, e3, e4⟩ := Reads.at_ (k := k) hrd (by omega)
  have e5 : u = us[k] := by
    rw [List.getElem?_eq_getElem hku] at e3
    injection e3 with e3
    exact e3.symm
  obtain ⟨g, c1, t, cs, f1, f2, f3, f4, f5, f6, f7⟩ := hr.2 k hku hk
  exact ⟨ad, some ⟨g, 0, none⟩, 4, c1, e1, by rw [block_of_add]; exact e2, by rw [e4, e5, f1], f6, by omega, f5, f7⟩
/-- append of a whole slice of rows -/
theorem run_appRR (w : World) (base : Nat) (v : Value) (us : List Value) (A : Option Addr) (m c : Nat) (vs : List Value) (hm : vs.length = m) (hown : OwnR w base v us) (hr : Reads w w.heap.size 1 A m vs) (h1 : ∀ u ∈ vs, u.oneCell' = true) (hlen : us.length + m ≤ 5864062014805) (hbase : base ≤ w.heap.size) (ty : TypeId) :
    ∃ v' w', (Builtin.append_ #[23, 23] ty #[v, .slice A m c]).run Tryz.prog w = .ok v' w' ∧ GrewR w w' base v v' (us ++ vs) := by
  subst hm
  obtain ⟨i0, hi, hz0, hz1, hz2⟩ := info_parts info_ints
  obtain ⟨v', w', hrun, h2, h3, h4⟩ := run_append_any (P := Tryz.prog) w base 23 ty 22 i0 _ 1 24 Tryz.underlying23 hi hz0 hz1 hz2 rfl (by omega) v us.length us hown w.heap.size A vs.length c vs hr h1 (by simp only [maxLen]; omega) (by omega) hbase
  refine ⟨v', w', hrun, ?_, h3⟩
  rw [OwnR, List.length_append]
  exact h2
theorem wpList_appRR {ops : Array Oper} {rest : List Oper} {o : Oper} {a : Act} {Q : Exit → Act → World → Prop} (w : World) (hgd : o.guard = none) (s x : Operand)
    (ho : o.op = .call { callee := .builtin .append, args := #[s, x], argTypes := #[23, 23] })
    (base : Nat) (v : Value) (us : List Value) (A : Option Addr) (m c : Nat) (vs : List Value) (hs : a.eval s = v) (hx : a.eval x = .slice A m c) (hm : vs.length = m) (hown : OwnR w base v us) (hr : Reads w w.heap.size 1 A m vs) (h1 : ∀ u ∈ vs, u.oneCell' = true) (hlen : us.length + m ≤ 5864062014805) (hbase : base ≤ w.heap.size)
    (h : ∀ v' w', GrewR w w' base v v' (us ++ vs) → wpList Tryz.prog ops Q rest (a.put o.dst v') w') : wpList Tryz.prog ops Q (o :: rest) a w :=
  wpList_plain hgd fun _ hK => by
    obtain ⟨v', w', hrun, hg⟩ := run_appRR w base v us A m c vs hm hown hr h1 hlen hbase o.type
    unfold Oper.wp execOp
    simp only [ho, resolve, invoke, builtin, Sem.run_bind, Sem.run_pure, Result.andThen_ok, List.map_toArray, List.map_cons, List.map_nil, hs, hx, hrun]
    exact hK _ _ (h v' w' hg)
theorem UsAt.one' {w : World} {us : List Value} {ls : List (List Int)} (h : UsAt w us ls) : ∀ u ∈ us, u.oneCell' = true := fun u hu => by
  obtain ⟨k, hk, rfl⟩ := List.mem_iff_getElem.1 hu
  obtain ⟨g, c, t, cs, e1, _⟩ := h.2 k hk (by rw [← h.1]; exact hk)
  rw [e1]; rfl
end Go.Proofs.YtflkiddmakeabaaGreatDoor

/- The reference's Nodes. -/
set_option linter.unusedVariables false
namespace Go.Proofs.YtflkiddmakeabaaGreatDoor
open Go.RowKit Zp
/-- nodes of one's own -/
def NodesIs (ls : List (List Int)) (w : World) (e : Ending) (w' : World) : Prop := ∃ v us, e = .returned v ∧ OwnR w' w.heap.size v us ∧ UsAt w' us ls ∧ Below w.heap.size w w'
theorem ownR_lit1 (w : World) (base : Nat) (u : Value) (hb : base ≤ w.heap.size) : OwnR (w.alloc (.cells #[u] 22)) base (.slice (some ⟨w.heap.size, 0, none⟩) 1 1) [u] :=
  World.ownsRow_lit (e := 22) (size := 1) w #[u] 1 hb (by simp [maxLen]) (by simp)
theorem OwnR.moreB {w : World} {base base' : Nat} {v : Value} {us : List Value} (h : OwnR w base v us) (hb : base' ≤ base) : OwnR w base' v us := by
  refine ⟨h.1, ?_⟩
  rcases h.2 with h0 | ⟨g, cap, cur, hv, hg, rest⟩
  · exact .inl h0
  · exact .inr ⟨g, cap, cur, hv, Nat.le_trans hb hg, rest⟩
theorem hidL_le' (l : List Int) : ∀ (m a : Nat), 1 ≤ m → (hidL l a m).length ≤ m := by
  intro m
  induction m using Nat.strongRecOn with
  | ind m ih =>
    intro a hm
    by_cases hs : shownB l a m = true
    · by_cases h : 2 ≤ m
      · have hl := leftN_lt h
        rw [show hidL l a m = hidL l a (leftN m) ++ hidL l (a + leftN m) (m - leftN m) by rw [hidL, if_pos hs, dif_pos h], List.length_append]
        have := ih (leftN m) (by omega) a (by omega)
        have := ih (m - leftN m) (by omega) (a + leftN m) (by omega)
        omega
      · rw [hidL, if_pos hs, dif_neg h]; simp
    · rw [hidL, if_neg hs]; simpa using hm
set_option maxRecDepth 100000 in
set_option maxHeartbeats 1000000 in
theorem rnodes_any (p k : Nat) [NeZero p] (PK : Pk p k) (A0 : Option Addr) (n0 c0 : Nat) (l : List Int) (hl : l.length = n0) (hn0 : n0 ≤ 281474976710656) (rs : List (List Int)) : ∀ (n : Nat), 1 ≤ n → ∀ (a : Nat), a + n ≤ 65536 → ∀ (A : Option Addr) (c : Nat) (ls : List (List Int)), ls.length = n → n ≤ c → (∀ t ∈ ls, t.length * 8 ≤ 140737488351232) → (∀ i, i < n → rowF ls i = rowF rs (i + a)) → ∀ (w : World), SL w A0 l → TB w A ls →
    Calls Tryz.prog 116 #[vi p, .slice A n c, .slice A0 n0 c0, vi a] w (NodesIs ((hidL l a n).map fun g => rootD (digL p k) (rowF rs) g.1 g.2) w) := by
  intro n
  induction n using Nat.strongRecOn with
  | ind n ih =>
    intro h1 a ha A c ls hls hnc hR hrow w hs0 hT
    obtain ⟨ad, A1, n1, c1, rfl, hz⟩ := hT 0 (by omega)
    clear hz
    have HRS := Lib.hid (rsome_any A0 n0 c0 l hl (by omega) a n w hs0)
    by_cases hsh : shownB l a n = true
    · rw [hsh] at HRS
      by_cases h2 : 2 ≤ n
      · have hlf := leftN_lt h2
        have hhid : hidL l a n = hidL l a (leftN n) ++ hidL l (a + leftN n) (n - leftN n) := by rw [hidL, if_pos hsh, dif_pos h2]
        rw [hhid, List.map_append]
        obtain ⟨j, hj⟩ : ∃ j, j = leftN n := ⟨_, rfl⟩
        rw [← hj] at hlf ⊢
        obtain ⟨hj1, hj2, hj3⟩ := hlf
        have hlc := fun w => rleft_any n h2 (by omega) w
        rw [← hj] at hlc
        have HLC := Lib.hid hlc
        have HI1 := Lib.hid (fun w hs hT => ih j (by omega) (by omega) a (by omega) (some ad) c (ls.take j) (by rw [List.length_take]; omega) (by omega) (fun t ht => hR t (List.mem_of_mem_take ht)) (fun i hi => by rw [rowF_take hi]; exact hrow i (by omega)) w hs hT)
        have hi2 := fun w hs hT => ih (n - j) (by omega) (by omega) (a + j) (by omega) (some (ad.add j)) (c - j) (ls.drop j) (by rw [List.length_drop]; omega) (by omega) (fun t ht => hR t (List.mem_of_mem_drop ht)) (fun i hi => by rw [rowF_drop, hrow (i + j) (by omega)]; congr 1; omega) w hs hT
        have HI2 := Lib.hid hi2
        have HTA := Lib.hid (hT.take j)
        have HTD := Lib.hid (hT.drop j)
        have HS0 := Lib.hid hs0
        have t1 : ((n : Int) == 1) = false := by simp; omega
        have t2 : (n : Int) ≤ (c : Int) := by omega
        have t3 : (j : Int) ≤ (n : Int) := by omega
        have t4 : (j : Int) ≤ (c : Int) := by omega
        have t5 : ¬ c = j := by omega
        have hl1 := hidL_le' l j a (by omega)
        have hl2 := hidL_le' l (n - j) (a + j) (by omega)
        have HLN := Lib.hid (And.intro hl1 hl2)
        obtain ⟨d1, hd1⟩ : ∃ d, d = (hidL l a j).map fun g => rootD (digL p k) (rowF rs) g.1 g.2 := ⟨_, rfl⟩
        obtain ⟨d2, hd2⟩ : ∃ d, d = (hidL l (a + j) (n - j)).map fun g => rootD (digL p k) (rowF rs) g.1 g.2 := ⟨_, rfl⟩
        have hdl : d1.length + d2.length ≤ 65536 := by rw [hd1, hd2]; simp; omega
        rw [← hd1] at HI1 ⊢
        rw [← hd2] at HI2 ⊢
        have HDL := Lib.hid hdl
        clear hd1 hd2 ih hls hR hT hj hlc hi2 hl1 hl2 hdl hs0 hrow hhid hsh hl hn0
        go_enter Tryz.func116, Tryz.ntmps116
        go_wp2_with fail
        refine HRS.out.mono ?_
        rintro _ _ ⟨rfl, rfl⟩
        go_wp2_with fail
        refine (HLC.out _).mono ?_
        rintro _ _ ⟨rfl, rfl⟩
        go_wp2_with fail
        refine (HI1.out _ HS0.out HTA.out).mono ?_
        rintro _ w1 ⟨v1, us1, rfl, o1, u1, b1⟩
        have HX1 := Lib.hid (And.intro o1 (And.intro u1 b1))
        clear o1 u1 b1
        go_wp2_with fail
        refine (HI2.out w1 (HS0.out.below HX1.out.2.2) (HTD.out.below HX1.out.2.2)).mono ?_
        rintro _ w2 ⟨v2, us2, rfl, o2, u2, b2⟩
        obtain ⟨A2, n2, c2, rfl, e2, _⟩ := ownR_shape o2
        have hb02 := HX1.out.2.2.trans (b2.mono HX1.out.2.2.size)
        have ho1 := OwnR.below HX1.out.1 b2
        have hu1 := HX1.out.2.1.below b2
        have hrd : Reads w2 w2.heap.size 1 A2 n2 us2 := by subst e2; exact Reads.of_own o2
        have HAP := Lib.hid (And.intro e2 (And.intro ho1 (And.intro hu1 (And.intro hrd (And.intro u2 hb02)))))
        have hlen : us1.length + n2 ≤ 5864062014805 := by have := HDL.out; have := HX1.out.2.1.1; have := u2.1; omega
        have HLE := Lib.hid hlen
        clear o2 u2 b2 e2 hb02 ho1 hu1 hrd hlen
        go_wp2_with (at_builtin; refine wpList_appRR w2 rfl _ _ rfl w.heap.size _ us1 A2 n2 c2 us2 rfl rfl HAP.out.1 HAP.out.2.1 HAP.out.2.2.2.1 HAP.out.2.2.2.2.1.one' HLE.out HAP.out.2.2.2.2.2.size ?_; intro v3 w3 hg3)
        have hu3 := (UsAt.grew hg3 HAP.out.2.1 HAP.out.2.2.1).app (UsAt.grew hg3 HAP.out.2.1 HAP.out.2.2.2.2.1)
        have hb3 := hg3.below HAP.out.2.2.2.2.2 HAP.out.2.1 (Nat.le_refl _) HAP.out.2.2.2.2.2.size
        go_ret
        exact ⟨_, _, rfl, hg3.own, hu3, hb3⟩
      · have e : n = 1 := by omega
        subst e
        have HHE : Hid (hidL l a 1 = []) := Lib.hid (by rw [hidL, if_pos hsh, dif_neg h2])
        clear ih hls hR hT hs0 hrow hsh hl hn0 h2
        go_enter Tryz.func116, Tryz.ntmps116
        go_wp2_with fail
        refine HRS.out.mono ?_
        rintro _ _ ⟨rfl, rfl⟩
        go_wp2
        go_ret
        exact ⟨_, [], rfl, World.ownsRow_nil _ _ _ _, by rw [HHE.out]; exact UsAt.nil _, Below.refl _ _⟩
    · have hs' : shownB l a n = false := by simpa using hsh
      rw [hs'] at HRS
      have hhid : hidL l a n = [(a, n)] := by rw [hidL, if_neg hsh]
      have hrt := rroot_any p k PK n h1 (by omega) (some ad) c ls hls hnc hR w hT
      rw [show rootD (digL p k) (rowF ls) 0 n = rootD (digL p k) (rowF rs) a n by
        rw [rootD_shift (r := rowF ls) (r' := rowF rs) (j := a) n 0 (fun i _ hi => hrow i (by omega)) h1, Nat.zero_add]] at hrt
      have HRT := Lib.hid hrt
      have HHE : Hid ((hidL l a n).map (fun g => rootD (digL p k) (rowF rs) g.1 g.2) = [rootD (digL p k) (rowF rs) a n]) := Lib.hid (by rw [hhid]; rfl)
      clear ih hls hR hT hs0 hrow hsh hl hn0 hs' hhid hrt
      go_enter Tryz.func116, Tryz.ntmps116
      go_wp2_with fail
      refine HRS.out.mono ?_
      rintro _ _ ⟨rfl, rfl⟩
      go_wp2_with fail
      refine HRT.out.mono ?_
      rintro _ w1 ⟨g, cap, rfl, ⟨cs, hx⟩, hs, hl, hi, hn, hb⟩
      have hba : Below w1.heap.size w1 (w1.alloc (.cells #[.slice (some ⟨g, 0, none⟩) 4 cap] 22)) := (Below.refl _ _).alloc (Nat.le_refl _) _
      have HFIN : Hid (NodesIs [rootD (digL p k) (rowF rs) a n] w (.returned (.slice (some ⟨w1.heap.size, 0, none⟩) 1 1)) (w1.alloc (.cells #[.slice (some ⟨g, 0, none⟩) 4 cap] 22))) := Lib.hid
        ⟨_, _, rfl, ownR_lit1 w1 w.heap.size _ hb.size, (UsAt.one hx (by decide) (by decide) hs hl hi).below hba, hb.trans (hba.mono hb.size)⟩
      clear hx hs hl hi hn hb hba
      go_wp2
      go_ret
      rw [HHE.out]
      exact HFIN.out
end Go.Proofs.YtflkiddmakeabaaGreatDoor

/- An Opening in the making; the reference's Open. -/
set_option linter.unusedVariables false
namespace Go.Proofs.YtflkiddmakeabaaGreatDoor
open Go.RowKit Zp
/-- the rows that are shown -/
def openR (p : Nat) [NeZero p] (ls : List (List Int)) (l : List Int) : List (List Int) := l.map fun i => fvs (els p (rowF ls i.toNat))
theorem openR_len (p : Nat) [NeZero p] (ls : List (List Int)) (l : List Int) : (openR p ls l).length = l.length := by simp [openR]
theorem openR_take (p : Nat) [NeZero p] (ls : List (List Int)) (l : List Int) {k m : Nat} (hk : k < l.length) (hm : l[k] = (m : Int)) : (openR p ls l).take (k + 1) = (openR p ls l).take k ++ [fvs (els p (rowF ls m))] := by
  rw [List.take_succ_eq_append_getElem (by rw [openR_len]; exact hk)]
  simp [openR, hm]
theorem openR_i64 (p : Nat) [NeZero p] (hp : p ≤ 2147483647) (ls : List (List Int)) (l : List Int) : ∀ t ∈ openR p ls l, ∀ x ∈ t, I64 x := fun t ht => by
  obtain ⟨i, _, rfl⟩ := List.mem_map.1 ht
  exact fun x hx => by obtain ⟨y, _, rfl⟩ := List.mem_map.1 hx; exact i64_fv _ hp
theorem openR_r8 (p : Nat) [NeZero p] (ls : List (List Int)) (l : List Int) (h : ∀ t ∈ ls, t.length * 8 ≤ 140737488351232) : ∀ t ∈ openR p ls l, t.length * 8 ≤ 140737488351232 := fun t ht => by
  obtain ⟨i, _, rfl⟩ := List.mem_map.1 ht
  by_cases hi : i.toNat < ls.length
  · rw [rowF_at hi]
    have := h _ (List.getElem_mem hi)
    simpa [fvs, els] using this
  · simp [rowF, List.getD_eq_getElem?_getD, List.getElem?_eq_none (Nat.le_of_not_lt hi), fvs, els]
/-- an Opening in the making: its rows so far -/
structure BldR (w : World) (B ob : Nat) (ov rv : Value) (us : List Value) (rs : List (List Int)) : Prop where
  blk : Blk w ob 70 #[ov, rv, .slice none 0 0]
  lo : ob < B
  sz : B ≤ w.heap.size
  ro : OwnR w B rv us
  rr : RowsOwn w B us rs
theorem BldR.below {w w' : World} {B ob : Nat} {ov rv : Value} {us : List Value} {rs : List (List Int)} (h : BldR w B ob ov rv us rs) (hb : Below w.heap.size w w') : BldR w' B ob ov rv us rs :=
  ⟨Blk.below h.blk hb h.blk.lt, h.lo, Nat.le_trans h.sz hb.size, OwnR.below h.ro hb, h.rr.below hb⟩
theorem BldR.push {w w' : World} {B ob : Nat} {ov rv u v' : Value} {us : List Value} {rs : List (List Int)} {l : List Int} (h : BldR w B ob ov rv us rs) (hu : Own w B u l) (hg : GrewR w w' B rv v' (us ++ [u])) :
    Blk w' ob 70 #[ov, rv, .slice none 0 0] ∧ BldR (w'.setCell ⟨ob, 1, none⟩ v') B ob ov v' (us ++ [u]) (rs ++ [l]) ∧ ∀ (C : Nat) (w0 : World), C ≤ ob → Below C w0 w → C ≤ w.heap.size → Below C w0 (w'.setCell ⟨ob, 1, none⟩ v') := by
  have hne : some ob ≠ rv.ownBlock := fun e => by
    have := (World.ownsRow.lt h.ro ob e.symm).1
    have := h.lo
    omega
  have hb := Blk.grown h.blk hg.grown hne
  have hr := (hg.rows h.ro h.rr).snoc (hu.grown hg.grown (own_ne hu h.ro))
  have hs : w'.grownBy (w'.setCell ⟨ob, 1, none⟩ v') (some ob) := blk_grown
  refine ⟨hb, ⟨hb.set_ 1 v', h.lo, Nat.le_trans h.sz (Nat.le_trans hg.grown.size hs.size), ownR_past hg.own hs h.lo, rowsOwn_past hr hs h.lo⟩, fun C w0 hC h0 hCs => ?_⟩
  have hCB : C ≤ B := Nat.le_trans hC (Nat.le_of_lt h.lo)
  exact (hg.below h0 h.ro hCB hCs).grown hs (Nat.le_trans hCs hg.grown.size) (fun x hx => by injection hx with hx; omega)
theorem rootD_len (p k : Nat) [NeZero p] (r : Nat → List Int) (a m : Nat) : (rootD (digL p k) r a m).length = 4 := by
  by_cases h : 2 ≤ m
  · rw [rootD_two _ _ _ h]; exact digL_len _ _
  · rw [rootD_one _ _ _ h]; exact digL_len _ _
/-- the blocks of ints, of rows and of arrays of ints are as they were -/
def Safe (w w' : World) : Prop := w.heap.size ≤ w'.heap.size ∧ ∀ t, t = 3 ∨ t = 22 ∨ t = 153 → ∀ x cs, Blk w x t cs → w'.heap[x]? = w.heap[x]?
theorem Safe.refl (w : World) : Safe w w := ⟨Nat.le_refl _, fun _ _ _ _ _ => rfl⟩
theorem Safe.trans {a b c : World} (h : Safe a b) (g : Safe b c) : Safe a c := ⟨Nat.le_trans h.1 g.1, fun t ht x cs hx => by
  have h1 := h.2 t ht x cs hx
  exact (g.2 t ht x cs (h1.trans hx)).trans h1⟩
theorem Safe.of {w w' : World} (h : Below w.heap.size w w') : Safe w w' := ⟨h.size, fun t ht x cs hx => h.block x (Blk.lt hx)⟩
theorem Safe.one {w w' : World} {r : Nat} {t : TypeId} {cs : Array Value} (h : w.grownBy w' (some r)) (hr : Blk w r t cs) (ht : t ≠ 3 ∧ t ≠ 22 ∧ t ≠ 153) : Safe w w' :=
  ⟨h.size, fun u hu x cx hx => h.block x (Blk.lt hx) (fun e => by
    injection e with e
    exact Blk.ne_ hx hr (by rintro rfl; rcases hu with e' | e' | e' <;> first | exact ht.1 e' | exact ht.2.1 e' | exact ht.2.2 e') e)⟩
theorem Own.safe {w w' : World} {base : Nat} {v : Value} {xs : List Int} (h : Own w base v xs) (hs : Safe w w') : Own w' base v xs := h.keep fun g hg => by
  rcases h.2 with ⟨rfl, _⟩ | ⟨g', cap, cur, rfl, _, hh, _⟩
  · cases hg
  · injection hg with hg
    subst hg
    exact hs.2 _ (.inl rfl) g' cur hh
theorem OwnR.safe {w w' : World} {base : Nat} {v : Value} {us : List Value} (h : OwnR w base v us) (hs : Safe w w') : OwnR w' base v us := by
  refine ⟨h.1, ?_⟩
  rcases h.2 with h0 | ⟨g, cap, cur, hv, hg, hh, rest⟩
  · exact .inl h0
  · exact .inr ⟨g, cap, cur, hv, hg, (hs.2 _ (.inr (.inl rfl)) g cur hh).trans hh, rest⟩
theorem RowsOwn.safe {w w' : World} {base : Nat} {us : List Value} {ls : List (List Int)} (h : RowsOwn w base us ls) (hs : Safe w w') : RowsOwn w' base us ls := ⟨h.1, fun k h1 h2 => (h.2 k h1 h2).safe hs⟩
theorem UsAt.safe {w w' : World} {us : List Value} {ls : List (List Int)} (h : UsAt w us ls) (hs : Safe w w') : UsAt w' us ls := ⟨h.1, fun k h1 h2 => by
  obtain ⟨g, c, t, cs, e1, e2, e3, e4, e5, e6⟩ := h.2 k h1 h2
  have hb := hs.2 t (by rcases e4 with e | e <;> simp [e]) g cs e2
  refine ⟨g, c, t, cs, e1, hb.trans e2, e3, e4, ⟨e5.1, fun hn => ?_⟩, e6⟩
  obtain ⟨ad, e, hbl, hc⟩ := e5.2 hn
  injection e with e
  subst e
  exact ⟨_, rfl, Nat.lt_of_lt_of_le hbl hs.1, fun j u hu => (World.cell?_of_block (by rw [block_of_add]; exact hb)).trans (hc j u hu)⟩⟩
/-- an Opening of the caller's; whole wherever ints, rows and arrays stay as they were -/
def OpenedUp (l : List Int) (rs ns : List (List Int)) (w : World) (e : Ending) (w' : World) : Prop :=
  ∃ A0 n0 c0 AR nR cR AN nN cN, e = .returned (.agg #[.slice A0 n0 c0, .slice AR nR cR, .slice AN nN cN]) ∧ OpnAt w' A0 n0 c0 l AR nR cR rs AN nN cN ns ∧ Below w.heap.size w w' ∧
    ∀ W' : World, Safe w' W' → OpnAt W' A0 n0 c0 l AR nR cR rs AN nN cN ns
/-- the Opening is whole, and is stored as the result -/
theorem opened_fin {S : List Int} {rs ns : List (List Int)} {w w5 W6 : World} {q ob base1 baseR baseN : Nat} {A1 AR AN : Option Addr} {n1 c1 nR cR nN cN : Nat} {us vs : List Value} {cs : Array Value} {a b c : Value}
    (h0 : Own w5 base1 (.slice A1 n1 c1) S) (h0b : q < base1) (h0n : ∀ g, (Value.slice A1 n1 c1).ownBlock = some g → g ≠ ob)
    (hR : OwnR w5 baseR (.slice AR nR cR) us) (hRr : RowsOwn w5 baseR us rs) (hRb : ob < baseR)
    (hN : OwnR w5 baseN (.slice AN nN cN) vs) (hNu : UsAt w5 vs ns) (hNb : ob < baseN) (hqo : q < ob)
    (hO : Blk w5 ob 70 cs) (hQ : Blk w5 q 70 #[a, b, c]) (hg : w5.grownBy W6 (some ob)) (hqw : w.heap.size ≤ q) (hb : Below w.heap.size w w5)
    (c1' cR' cN' : Nat) (hcN : nN ≤ cN') (b0 : S.length * 8 ≤ 140737488351232) (bR : rs.length ≤ 65536) (bN : ns.length ≤ 65536) (i0 : ∀ x ∈ S, I64 x) (iR : ∀ t ∈ rs, ∀ x ∈ t, I64 x) (rR : ∀ t ∈ rs, t.length * 8 ≤ 140737488351232) (rN : ∀ t ∈ ns, t.length = 4) :
    OpenedUp S rs ns w (.returned (.agg #[.slice A1 n1 c1', .slice AR nR cR', .slice AN nN cN'])) (((W6.setCell ⟨q, 0, none⟩ (.slice A1 n1 c1')).setCell ⟨q, 1, none⟩ (.slice AR nR cR')).setCell ⟨q, 2, none⟩ (.slice AN nN cN')) := by
  have hQ6 := Blk.grown hQ hg (by intro e; injection e with e; omega)
  obtain ⟨hset, hgr⟩ := blk_set3 hQ6 (.slice A1 n1 c1') (.slice AR nR cR') (.slice AN nN cN')
  have h06 : Own W6 base1 (.slice A1 n1 c1) S := h0.keep fun g hgv => hg.block g (h0.lt g hgv).2 (fun e => by injection e with e; exact h0n g hgv e)
  have o1 := own_past h06 hgr h0b
  have r1 := ownR_past (ownR_past hR hg hRb) hgr (by omega)
  have r2 := rowsOwn_past (rowsOwn_past hRr hg hRb) hgr (by omega)
  have n2 := ownR_past (ownR_past hN hg hNb) hgr (by omega)
  have u2 := (hNu.far hO (.inr rfl) hg).far hQ6 (.inr rfl) hgr
  have hbf := (hb.grown hg hb.size (fun x hx => by injection hx with hx; omega)).grown hgr (Nat.le_trans hb.size hg.size) (fun x hx => by injection hx with hx; omega)
  have key : ∀ W', Own W' base1 (.slice A1 n1 c1) S → OwnR W' baseR (.slice AR nR cR) us → RowsOwn W' baseR us rs → OwnR W' baseN (.slice AN nN cN) vs → UsAt W' vs ns → OpnAt W' A1 n1 c1' S AR nR cR' rs AN nN cN' ns := fun W' o1 r1 r2 n2 u2 => by
    obtain ⟨A1', n1', c1'', ev, hl1, _, _, hsl⟩ := o1.shapeN
    injection ev with ev1 ev2 ev3
    subst ev1 ev2 ev3
    obtain ⟨_, _, _, e1, hnR, _⟩ := ownR_shape r1
    injection e1 with _ e1 _
    obtain ⟨_, _, _, e2, hnN, _⟩ := ownR_shape n2
    injection e2 with _ e2 _
    refine ⟨hl1, by rw [← r2.1, hnR, e1], by rw [← u2.1, hnN, e2], by omega, ?_, ?_, hcN, i0, rR, fun t ht => by rw [rN t ht]; omega, hsl, tb_own r1 r2 iR, tb_us n2 u2⟩
    · have := r2.1; omega
    · have := u2.1; omega
  exact ⟨A1, n1, c1', AR, nR, cR', AN, nN, cN', rfl, key _ o1 r1 r2 n2 u2, hbf, fun W' hs => key W' (o1.safe hs) (r1.safe hs) (r2.safe hs) (n2.safe hs) (u2.safe hs)⟩
set_option maxRecDepth 100000 in
set_option maxHeartbeats 4000000 in
theorem ropen_any (p k : Nat) [NeZero p] (PK : Pk p k) (A : Option Addr) (N c : Nat) (ls : List (List Int)) (hN : ls.length = N) (h1 : 1 ≤ N) (hN2 : N ≤ 65536) (hNc : N ≤ c) (hR : ∀ t ∈ ls, t.length * 8 ≤ 140737488351232)
    (A0 : Option Addr) (n0 c0 : Nat) (l : List Int) (hl : l.length = n0) (hlI : ∀ x ∈ l, I64 x) (hn0 : n0 * 8 ≤ 140737488351232) (hin : ∀ x ∈ l, 0 ≤ x ∧ x < N) (w : World) (hs : SL w A0 l) (hT : TB w A ls) :
    Calls Tryz.prog 64 #[vi p, .slice A N c, .slice A0 n0 c0] w (OpenedUp (onceL l) (openR p ls (onceL l)) ((hidL (onceL l) 0 N).map fun g => rootD (digL p k) (rowF ls) g.1 g.2) w) := by
  have hb0 : Below w.heap.size w (w.alloc (.cells #[.slice none 0 0, .slice none 0 0, .slice none 0 0] 70)) := (Below.refl _ _).alloc (Nat.le_refl _) _
  have hB6 := Blk.new w 70 #[.slice none 0 0, .slice none 0 0, .slice none 0 0]
  have HON := Lib.hid (ronce_any A0 n0 c0 l hl hlI hn0 _ (hs.below hb0))
  obtain ⟨S, hS⟩ : ∃ S, S = onceL l := ⟨_, rfl⟩
  have hSa : Asc S := by rw [hS]; exact asc_onceL l
  have hSin : ∀ x ∈ S, 0 ≤ x ∧ x < N := fun x hx => hin x (by rw [hS] at hx; exact (mem_onceL x l).1 hx)
  have hSl := hSa.len hSin
  rw [← hS] at HON ⊢
  have HT := Lib.hid (hT.below hb0)
  have HB0 := Lib.hid hb0
  have HB6 := Lib.hid hB6
  have HLS := Lib.hid (And.intro hN (And.intro hN2 (And.intro hSl hR)))
  have HSI := Lib.hid hSin
  have HPM := Lib.hid PK.pm
  have HNC := Lib.hid (And.intro h1 hNc)
  clear hb0 hB6 hs hT hN hN2 h1 hNc hR hl hlI hn0 hin hS hSa hSin hSl
  go_enter Tryz.func64, Tryz.ntmps64
  go_wp2_with fail
  refine HON.out.mono ?_
  rintro _ w1 ⟨v1, rfl, ho1, hb1⟩
  obtain ⟨A1, n1, c1, rfl, hl1, _, _, hs1⟩ := ho1.shapeN
  go_wp2
  obtain ⟨W2, hW2⟩ : ∃ W2, W2 = w1.alloc (.cells #[.slice A1 n1 c1, .slice none 0 0, .slice none 0 0] 70) := ⟨_, rfl⟩
  obtain ⟨ob, hob⟩ : ∃ ob, ob = w1.heap.size := ⟨_, rfl⟩
  have hW2s : W2.heap.size = ob + 1 := by rw [hW2, hob]; simp
  have hB2 : Blk W2 ob 70 #[.slice A1 n1 c1, .slice none 0 0, .slice none 0 0] := by rw [hW2, hob]; exact Blk.new _ _ _
  have hb2 : Below ob w1 W2 := by rw [hW2, hob]; exact (Below.refl _ _).alloc (Nat.le_refl _) _
  rw [← hW2, ← hob]
  have HOB := Lib.hid (And.intro hob hW2s)
  have HW2 := Lib.hid (And.intro hB2 hb2)
  have HS1 := Lib.hid hs1
  have HL1 := Lib.hid hl1
  have HO1 := Lib.hid ho1
  have HB1 := Lib.hid (HB0.out.trans (hb1.mono HB0.out.size))
  have HB01 := Lib.hid hb1
  have HB61 := Lib.hid (Blk.below HB6.out hb1 HB6.out.lt)
  clear hW2 hob hW2s hB2 hb2 hs1 hl1 ho1 hb1
  go_loopw [9, 10] (fun i _ wr => ∃ (kk : Nat) (v : Value) (us : List Value), kk ≤ S.length ∧ i = vi kk ∧ BldR wr (ob + 1) ob (.slice A1 n1 c1) v us ((openR p ls S).take kk) ∧ Below ob w1 wr) (fun i _ _ => n1 - (intOf i).toNat)
  case atStart => exact ⟨0, .slice none 0 0, [], Nat.zero_le _, rfl, ⟨HW2.out.1, Nat.lt_succ_self _, by rw [HOB.out.2]; exact Nat.le_refl _, World.ownsRow_nil _ _ _ _, RowsOwn.nil _ _⟩, HW2.out.2⟩
  case round =>
    obtain ⟨kk, v, us, hk, rfl, hbld, hb⟩ := hrel
    have hbw1 : Below w1.heap.size w1 wr := by rw [← HOB.out.1]; exact hb
    rw [HL1.out] at hk
    obtain ⟨AV, nV, cV, rfl, hnV, hcV⟩ := ownR_shape hbld.ro
    by_cases hlt : kk < n1
    · have hkS : kk < S.length := by rw [HL1.out]; exact hlt
      obtain ⟨ad, rfl, hab, hcell⟩ := (HS1.out.below hbw1).at_ hkS
      have hx := HSI.out _ (List.getElem_mem hkS)
      obtain ⟨m, hm⟩ := Int.eq_ofNat_of_zero_le hx.1
      have htk := openR_take p ls S hkS hm
      rw [hm] at hcell hx
      have hmN : m < ls.length := by rw [HLS.out.1]; omega
      obtain ⟨ad2, A2, n2, c2, rfl, hb2, hc2, hl2, hn2, hs2, hi2⟩ := (HT.out.below (HB01.out.trans (hbw1.mono HB01.out.size))) m hmN
      have hrl := HLS.out.2.2.2 _ (List.getElem_mem hmN)
      rw [rowF_at hmN] at htk
      have hra := rall_any p HPM.out A2 c2 ls[m] hi2 (by omega) wr hs2
      rw [hl2] at hra
      have HTK := Lib.hid htk
      have HRA := Lib.hid hra
      generalize ls[m] = x at *
      have i1 : (0 : Int) ≤ (kk : Int) := by omega
      have i2 : (kk : Int) < (n1 : Int) := by omega
      have i3 : (0 : Int) ≤ (m : Int) := by omega
      have i4 : (m : Int) < (N : Int) := hx.2
      have hwr : IntKind.i64.wrap ((kk : Int) + 1) = (kk : Int) + 1 := IntWalk.i64_in _ (by have := HLS.out.2.2.1; have := HL1.out; have := HLS.out.2.1; omega)
      have HUS := Lib.hid (show us.length < 5864062014805 by have := hbld.rr.1; rw [List.length_take] at this; have := HLS.out.2.2.1; have := HL1.out; have := HLS.out.2.1; omega)
      have HBL := Lib.hid hbld
      have HBB := Lib.hid hb
      clear hra htk hm hx hl2 hn2 hs2 hi2 hrl hmN hkS hbld hb hbw1 hab
      go_wp2_with fail
      refine HRA.out.mono ?_
      rintro _ w3 ⟨v3, rfl, ho3, hb3⟩
      obtain ⟨A3, n3, c3, rfl, hl3, _, _, _⟩ := ho3.shapeN
      have hbld3 := HBL.out.below hb3
      have hbb3 := HBB.out.trans (hb3.mono (by have := HBL.out.sz; omega))
      have d1 := (hbld3.blk.cell 1).trans (show _ = some (.slice AV nV cV) from rfl)
      have HO3 := Lib.hid (ho3.more HBL.out.sz)
      have HB3 := Lib.hid hbld3
      have HBB3 := Lib.hid hbb3
      clear ho3 hl3 hb3 hbld3 hbb3
      go_wp2_with (at_builtin; refine wpList_appR w3 A3 n3 c3 rfl _ _ rfl (ob + 1) _ us rfl rfl HB3.out.ro HUS.out HB3.out.sz ?_; intro v4 w4 hg4; obtain ⟨hq, hbld4, hbb4⟩ := HB3.out.push HO3.out hg4; obtain ⟨A4, n4, c4, rfl, hn4, hc4⟩ := ownR_shape hg4.own; have k1 := (hq.cell 1).trans (show _ = some (.slice AV nV cV) from rfl); have z1 := hq.frozen 1; clear hg4 hq hn4 hc4)
      have HB4 := Lib.hid (And.intro hbld4 hbb4)
      clear hbld4 hbb4
      go_roundw
      case rel => exact ⟨kk + 1, _, _, by rw [HL1.out]; omega, by go_num, by rw [HTK.out]; exact HB4.out.1, HB4.out.2 ob w1 (Nat.le_refl _) HBB3.out (by have := HB3.out.sz; omega)⟩
      case measure => simp [intOf]; omega
    · have ek : kk = n1 := by omega
      rw [show (openR p ls S).take kk = openR p ls S by rw [ek, ← HL1.out, ← openR_len p ls S, List.take_length]] at hbld
      subst ek
      have hno := rnodes_any p k PK A1 kk c1 S HL1.out (by have := HLS.out.2.2.1; have := HL1.out; have := HLS.out.2.1; omega) ls N HNC.out.1 0 (by have := HLS.out.2.1; omega) A c ls HLS.out.1 HNC.out.2 HLS.out.2.2.2 (fun i _ => rfl) wr (HS1.out.below hbw1) (HT.out.below (HB01.out.trans (hbw1.mono HB01.out.size)))
      rw [show ((0 : Nat) : Int) = 0 from rfl] at hno
      have HNO := Lib.hid hno
      have HBL := Lib.hid hbld
      have HBW := Lib.hid hbw1
      clear hno hbld hbw1 hb
      go_wp2_with fail
      refine HNO.out.mono ?_
      rintro _ w5 ⟨v5, vs, rfl, hov, hus, hb5⟩
      obtain ⟨A5, n5, c5, rfl, hn5, hc5⟩ := ownR_shape hov
      have hbld5 := HBL.out.below hb5
      have d0 := (hbld5.blk.cell 0).trans (show _ = some (.slice A1 kk c1) from rfl)
      have d1 := (hbld5.blk.cell 1).trans (show _ = some (.slice AV nV cV) from rfl)
      have d2 := (hbld5.blk.cell 2).trans (show _ = some (.slice none 0 0) from rfl)
      have z2 := hbld5.blk.frozen 2
      have hbw5 : Below w1.heap.size w1 w5 := HBW.out.trans (hb5.mono HBW.out.size)
      have hB65 := Blk.below HB61.out hbw5 HB61.out.lt
      have e0 := (hB65.cell 0).trans (show _ = some (.slice none 0 0) from rfl)
      have e1 := (hB65.cell 1).trans (show _ = some (.slice none 0 0) from rfl)
      have e2 := (hB65.cell 2).trans (show _ = some (.slice none 0 0) from rfl)
      have f0 := hB65.frozen 0
      have f1 := hB65.frozen 1
      have f2 := hB65.frozen 2
      have hqo : w.heap.size < ob := by have := HB61.out.lt; rw [HOB.out.1]; exact this
      have hfin := opened_fin (q := w.heap.size) (ob := ob) (w := w) (W6 := w5.setCell ⟨ob, 2, none⟩ (.slice A5 n5 c5)) (HO1.out.below hbw5) (by simp) (fun g hg => by have := (HO1.out.lt g hg).2; rw [HOB.out.1]; omega) hbld5.ro hbld5.rr hbld5.lo hov hus (by have := HBL.out.sz; omega) hqo hbld5.blk hB65 blk_grown (Nat.le_refl _) (HB1.out.trans (hbw5.mono HB1.out.size))
        c1 cV c5 hc5 (by have := HLS.out.2.2.1; have := HLS.out.2.1; omega) (by rw [openR_len]; have := HLS.out.2.2.1; have := HLS.out.2.1; omega) (by have := hidL_le' S N 0 HNC.out.1; rw [List.length_map]; have := HLS.out.2.1; omega) (fun x hx => by have := HSI.out x hx; have := HLS.out.2.1; constructor <;> omega) (openR_i64 p HPM.out ls S) (openR_r8 p ls S HLS.out.2.2.2) (fun t ht => by obtain ⟨g, _, rfl⟩ := List.mem_map.1 ht; exact rootD_len p k _ _ _)
      have HFIN := Lib.hid hfin
      have hqo2 : ¬ w.heap.size = ob := by omega
      have hQ6 := Blk.grown hB65 (blk_grown (g := ob) (i := 2) (u := .slice A5 n5 c5)) (by intro e; injection e with e; omega)
      obtain ⟨hset, _⟩ := blk_set3 hQ6 (.slice A1 kk c1) (.slice AV nV cV) (.slice A5 n5 c5)
      have q0 := (hset.cell 0).trans (show _ = some (.slice A1 kk c1) from rfl)
      have q1 := (hset.cell 1).trans (show _ = some (.slice AV nV cV) from rfl)
      have q2 := (hset.cell 2).trans (show _ = some (.slice A5 n5 c5) from rfl)
      have HQ := Lib.hid (And.intro q0 (And.intro q1 q2))
      clear hfin hov hus hbld5 hbw5 hB65 hb5 hqo hQ6 hset q0 q1 q2
      go_wp2
      obtain ⟨q0, q1, q2⟩ := HQ.out
      exact bodyPost_ret (v := .agg #[.slice A1 kk c1, .slice AV nV cV, .slice A5 n5 c5]) (by simp [results, Tryz.results64, go_sem, q0, q1, q2]) rfl HFIN.out
end Go.Proofs.YtflkiddmakeabaaGreatDoor

/- The walk of ref5.Row. -/
set_option linter.unusedVariables false
namespace Go.Proofs.YtflkiddmakeabaaGreatDoor
open Go.RowKit Zp
end Go.Proofs.YtflkiddmakeabaaGreatDoor

/- The walk of ref5.Shows. -/
set_option linter.unusedVariables false
namespace Go.Proofs.YtflkiddmakeabaaGreatDoor
open Go.RowKit Zp
end Go.Proofs.YtflkiddmakeabaaGreatDoor

/- Plain: what is looked at when somebody shows that a word is of low degree. -/
set_option linter.unusedVariables false
namespace Go.Proofs.YtflkiddmakeabaaGreatDoor
open Go.RowKit Zp
section
variable (p k : Nat) [NeZero p]
end
/-- the shift of a domain that was halved i times -/
def sqI {p : Nat} [NeZero p] (s : Fin p) : Nat → Fin p
  | 0 => s
  | i + 1 => sqI s i * sqI s i
/-- how many points a domain of 2^e has that was halved i times -/
def nI (e i : Nat) : Nat := 2 ^ (e - i)
theorem nI_pos (e i : Nat) : 1 ≤ nI e i := Nat.pow_pos (by omega)
theorem nI_step {e i : Nat} (h : i < e) : nI e i = 2 * nI e (i + 1) := by
  unfold nI
  rw [show e - i = (e - (i + 1)) + 1 by omega, Nat.pow_succ]
  omega
theorem nI_le {e : Nat} (he : e ≤ 16) (i : Nat) : nI e i ≤ 65536 := by
  unfold nI
  exact Nat.le_trans (Nat.pow_le_pow_right (by omega) (show e - i ≤ 16 by omega)) (by decide)
/-- how many rounds there are -/
def rndK (j : Nat) : Nat := j - 2
section
variable (p : Nat) [NeZero p] (s : Fin p) (e : Nat) (opens : List OpnI) (dr : Nat → Int) (last : List Int) (R : Nat)
/-- a row of two at a place that an Opening shows -/
def rowO (o : OpnI) (pl : Int) : List Int := o.rs.getD (lowB o.l pl) []
def opnO (opens : List OpnI) (i : Nat) : OpnI := opens.getD i ⟨[], [], []⟩
end
theorem lowB_mem {l : List Int} (h : Asc l) {x : Int} (hx : x ∈ l) : lowB l x < l.length ∧ l[lowB l x]? = some x := by
  obtain ⟨j, hj, rfl⟩ := List.mem_iff_getElem.1 hx
  have e : lowB l l[j] = j := lowB_of _ (by omega) (fun i hi y hy => by
    have hil : i < l.length := by omega
    rw [List.getElem?_eq_getElem hil] at hy
    injection hy with hy
    have := h.at_lt hi hj
    omega) (fun y hy => by
    rw [List.getElem?_eq_getElem hj] at hy
    injection hy with hy
    omega)
  rw [e]
  exact ⟨hj, List.getElem?_eq_getElem hj⟩
/-- an Opening that shows a place, in rows of two -/
structure OkO (o : OpnI) (pl : Int) : Prop where
  asc : Asc o.l
  len : o.rs.length = o.l.length
  max : o.l.length ≤ 65536
  mem : pl ∈ o.l
  two : ∀ r ∈ o.rs, r.length = 2
theorem OkO.at_ {o : OpnI} {pl : Int} (h : OkO o pl) : ∃ hj : lowB o.l pl < o.rs.length, rowO o pl = o.rs[lowB o.l pl] ∧ o.rs[lowB o.l pl].length = 2 := by
  have h1 := lowB_mem h.asc h.mem
  have hj : lowB o.l pl < o.rs.length := by rw [h.len]; exact h1.1
  refine ⟨hj, ?_, h.two _ (List.getElem_mem hj)⟩
  unfold rowO
  rw [List.getD_eq_getElem?_getD, List.getElem?_eq_getElem hj, Option.getD_some]
end Go.Proofs.YtflkiddmakeabaaGreatDoor

/- Small facts: a block that was made just now. -/
set_option linter.unusedVariables false
namespace Go.Proofs.YtflkiddmakeabaaGreatDoor
open Go.RowKit
theorem below_of_eq {w w' : World} {o : Obj} (h : w' = w.alloc o) : Below w.heap.size w w' := by rw [h]; exact (Below.refl _ _).alloc (Nat.le_refl _) _
end Go.Proofs.YtflkiddmakeabaaGreatDoor

/- Walks: round.shown$1, round.row. -/
set_option linter.unusedVariables false
namespace Go.Proofs.YtflkiddmakeabaaGreatDoor
open Go.RowKit Zp
end Go.Proofs.YtflkiddmakeabaaGreatDoor

/- The walk of fold.follows. -/
set_option linter.unusedVariables false
namespace Go.Proofs.YtflkiddmakeabaaGreatDoor
open Go.RowKit Zp
/-- a round at place i of a table -/
def RndE (w : World) (ad : Addr) (i : Nat) (D : Nat) (dr : Int) (o : OpnI) : Prop :=
  ∃ A0 n0 c0 AR nR cR AN nN cN, w.cell? (ad.add (i * 5)) = some (.pointer (some ⟨D, 0, none⟩)) ∧ w.cell? (ad.add (i * 5 + 1)) = some (vi dr) ∧ w.cell? (ad.add (i * 5 + 2)) = some (.slice A0 n0 c0) ∧ w.cell? (ad.add (i * 5 + 3)) = some (.slice AR nR cR) ∧ w.cell? (ad.add (i * 5 + 4)) = some (.slice AN nN cN) ∧ OpnAt w A0 n0 c0 o.l AR nR cR o.rs AN nN cN o.ns
theorem RndE.below {w w' : World} {ad : Addr} {i D : Nat} {dr : Int} {o : OpnI} (h : RndE w ad i D dr o) (hb : Below w.heap.size w w') : RndE w' ad i D dr o := by
  obtain ⟨A0, n0, c0, AR, nR, cR, AN, nN, cN, h1, h2, h3, h4, h5, h6⟩ := h
  exact ⟨A0, n0, c0, AR, nR, cR, AN, nN, cN, (hb.cell (block_lt_of_cell h1)).trans h1, (hb.cell (block_lt_of_cell h2)).trans h2, (hb.cell (block_lt_of_cell h3)).trans h3, (hb.cell (block_lt_of_cell h4)).trans h4, (hb.cell (block_lt_of_cell h5)).trans h5, h6.below hb⟩
theorem ad_off (ad : Addr) (m j : Nat) (hj : 0 < j) : ad.add (m + j) = ⟨(ad.add m).block, (ad.add m).off + j, none⟩ := by
  rw [← add_of_add]
  simp only [Addr.add]
  rw [if_neg (by omega)]
theorem RndE.cells {w : World} {ad : Addr} {i D : Nat} {dr : Int} {o : OpnI} (h : RndE w ad i D dr o) : ∃ A0 n0 c0 AR nR cR AN nN cN, w.cell? (ad.add (i * 5)) = some (.pointer (some ⟨D, 0, none⟩)) ∧ w.cell? ⟨(ad.add (i * 5)).block, (ad.add (i * 5)).off + 1, none⟩ = some (vi dr) ∧ w.cell? ⟨(ad.add (i * 5)).block, (ad.add (i * 5)).off + 2, none⟩ = some (.slice A0 n0 c0) ∧ w.cell? ⟨(ad.add (i * 5)).block, (ad.add (i * 5)).off + 3, none⟩ = some (.slice AR nR cR) ∧ w.cell? ⟨(ad.add (i * 5)).block, (ad.add (i * 5)).off + 4, none⟩ = some (.slice AN nN cN) ∧ OpnAt w A0 n0 c0 o.l AR nR cR o.rs AN nN cN o.ns := by
  obtain ⟨A0, n0, c0, AR, nR, cR, AN, nN, cN, h1, h2, h3, h4, h5, h6⟩ := h
  exact ⟨A0, n0, c0, AR, nR, cR, AN, nN, cN, h1, by rw [← ad_off _ _ _ (by omega)]; exact h2, by rw [← ad_off _ _ _ (by omega)]; exact h3, by rw [← ad_off _ _ _ (by omega)]; exact h4, by rw [← ad_off _ _ _ (by omega)]; exact h5, h6⟩
section
variable {p : Nat} [NeZero p] {s : Fin p} {e : Nat} {opens : List OpnI} {dr : Nat → Int} {last : List Int} {R : Nat} {place : Int}
end
end Go.Proofs.YtflkiddmakeabaaGreatDoor
