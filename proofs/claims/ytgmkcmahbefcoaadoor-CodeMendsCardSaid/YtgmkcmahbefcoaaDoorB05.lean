/- A bundle of texts: LawM1, Dv, Vn, Pf, Eval, Pg, Cf. -/
import Derived.Test.YtgmkcmahbefcoaaDoorB03
import Derived.Test.YtgmkcmahbefcoaaDoorB04
import Derived.Test.YtgmkcmahbefcoaaDoorB02
import Derived.Test.YtgmkcmahbefcoaaDoorB00
import Derived.Maps.OwnSet
import Derived.Test.YtgmkcmahbefcoaaDoorB01
import Derived.RangeFuncNested
import Derived.RangeFuncBound
import Derived.RangeFuncCalls
import Derived.RangeFuncLeaves
import Derived.RangeFuncBox
import Derived.Shelf.Abstract
import Derived.Shelf.RegionOpen
import Derived.WalkKit
import Derived.OwnWalkIn
import Derived.TacticsInMore
import Derived.LoopNIn
import Derived.LoopIn
import Derived.Deep.RegionHeld3
/- The walk of the law SumsMakes: what is not shown. -/
set_option linter.unusedVariables false
namespace Go.Proofs.YtgmkcmahbefcoaaDoor
open Go.RowKit Zp

/-- what is told of tables that are not shown: the number of variables, the error -/
structure MkNo (q d m : Nat) (V k : Int) : Prop where
  why : (V < 0 ∧ k = 2) ∨ (0 ≤ V ∧ V ≠ (m : Int) ∧ k = 2) ∨ (0 ≤ V ∧ V = (m : Int) ∧ (q : Int) ≤ d ∧ k = 3)
set_option maxRecDepth 100000 in
set_option maxHeartbeats 2000000 in
theorem smk_no (w : World) (q : Nat) [NeZero q] (h3 : 3 ≤ q) (hqm : q ≤ 2147483647) (hpr : IsPrime q) (A : Option Addr) (d c : Nat) (ts : List (List Int)) (ha : ArgM w A d c ts) (hd16 : d ≤ 5864062014805) (hlen : ∀ t ∈ ts, t.length ≤ 17592186044416) (hi : ∀ t ∈ ts, ∀ x ∈ t, I64 x) (B : Option Addr) (m cb : Nat) (hm63 : m < 9223372036854775808) (V k : Int) (hN : MkNo q d m V k)
    (hov : ∀ W, TB W A ts → Calls Tryd.prog 11 #[.slice A d c] W fun e w' => e = .returned (vi V) ∧ ∃ k, w' = W.drewN k)
    (hmk : ∀ W b A2 c2, W.cell? ⟨b, 0, none⟩ = some (vi q) → TB W A2 ts → Calls Tryd.prog 10 #[.pointer (some ⟨b, 0, none⟩), .slice A2 d c2, .slice B m cb] W fun e w' => e = NoSummed k ∧ Below W.heap.size W w') (hT : Typed w) :
    Calls Tryd.prog 3 #[vi q, .slice A d c, .slice B m cb] w fun e w' => SaysW (.bool true) w e w' := by
  have HF := Lib.hid (sfield_yes q h3 hqm hpr w hT)
  have HC := Lib.hid (fun W hW => copied_any A d c ts ha.len hd16 hlen W hW)
  have HLA := Lib.hid ha.len
  have HOV := Lib.hid hov
  have HMK := Lib.hid hmk
  have he2 := fun W hg => error_any k k W hg
  have hk0 : k ≠ 0 := by rcases hN.why with h | h | h <;> omega
  have hkk : (k == k) = true := by simp
  rw [errV_ne hk0, hkk] at he2
  have HE := Lib.hid he2
  have HN := Lib.hid hN.why
  clear he2 hov hmk hkk hk0 hN
  go_enter Tryd.func3, Tryd.ntmps3
  go_wp2_with fail
  refine (HF.out).mono ?_
  rintro e w1 ⟨b, rfl, F1, hb1⟩
  have hs1 := ha.tb.below hb1
  go_wp2_with fail
  refine (HC.out _ hs1).mono ?_
  rintro e w2 ⟨v2, us, rfl, hownR, hrows, hb2⟩
  obtain ⟨A2, n2, c2, rfl, hl2, _⟩ := ownR_shape hownR
  have hl2' := hrows.1
  rw [HLA.out, hl2] at hl2'
  subst hl2'
  have tb2 := tb_own hownR hrows hi
  have F2 := F1.below hb2 F1.le
  have hs2 := hs1.below hb2
  have bw2 := hb1.trans (hb2.mono hb1.size)
  clear hownR hrows hl2 F1 hs1 hb1 hb2
  go_wp2_with fail
  refine (HMK.out _ b A2 c2 F2.c0 tb2).mono ?_
  rintro e w2b ⟨he, hb2b⟩
  unfold NoSummed at he
  subst he
  obtain ⟨w3, hw3⟩ : ∃ w3, w3 = w2b.alloc (.cells #[.slice none 0 0, .slice none 0 0] 29) := ⟨_, rfl⟩
  have hB3 : Blk w3 w2b.heap.size 29 #[.slice none 0 0, .slice none 0 0] := by rw [hw3]; exact Blk.new _ _ _
  have hb23 : Below w2b.heap.size w2b w3 := by rw [hw3]; exact (Below.refl _ _).alloc (Nat.le_refl _) _
  have hb3 := hb2b.trans (hb23.mono hb2b.size)
  have tb3 := tb2.below hb3
  have hs3 := hs2.below hb3
  have bw3 := bw2.trans (hb3.mono bw2.size)
  have HW3 := Lib.hid hw3
  clear tb2 hs2 bw2 F2 hb2b hb23 hb3 hw3
  rcases HN.out with ⟨g1, rfl⟩ | ⟨g1, g2, rfl⟩ | ⟨g1, g2, g3, rfl⟩
  · have t1 : decide (V < 0) = true := by simp; omega
    go_wp2_with fail
    rw [← HW3.out]
    go_wp2_with fail
    refine (HOV.out _ hs3).mono ?_
    rintro e w4 ⟨rfl, hk4⟩
    have hb4 : Below w3.heap.size w3 w4 := below_draws hk4
    have bw4 := bw3.trans (hb4.mono bw3.size)
    have hB4 := hB3.below hb4 hB3.lt
    have hw4 := Blk.lt hB4
    clear hs3 tb3 hk4
    go_wp2_with fail
    refine (HE.out _ (hT.below bw4)).mono ?_
    rintro e w5 ⟨rfl, hb5⟩
    have hB5 := hB4.below hb5 hB4.lt
    have bw5 := bw4.trans (hb5.mono bw4.size)
    have c0 := (Blk.cell hB5 0).trans (show _ = some (Value.slice none 0 0) from rfl)
    have c1 := (Blk.cell hB5 1).trans (show _ = some (Value.slice none 0 0) from rfl)
    clear hB4 hB5 hB3 hb4 hb5
    go_wp2
    go_ret
    exact ⟨rfl, bw5⟩
  · have t1 : decide (V < 0) = false := by simp; omega
    have t2 : (V != (m : Int)) = true := by rw [bne_iff_ne]; exact g2
    clear g2
    go_wp2_with fail
    rw [← HW3.out]
    go_wp2_with fail
    refine (HOV.out _ hs3).mono ?_
    rintro e w4 ⟨rfl, hk4⟩
    have hb4 : Below w3.heap.size w3 w4 := below_draws hk4
    have bw4 := bw3.trans (hb4.mono bw3.size)
    have hB4 := hB3.below hb4 hB3.lt
    have hw4 := Blk.lt hB4
    clear hs3 tb3 hk4
    go_wp2_with fail
    refine (HE.out _ (hT.below bw4)).mono ?_
    rintro e w5 ⟨rfl, hb5⟩
    have hB5 := hB4.below hb5 hB4.lt
    have bw5 := bw4.trans (hb5.mono bw4.size)
    have c0 := (Blk.cell hB5 0).trans (show _ = some (Value.slice none 0 0) from rfl)
    have c1 := (Blk.cell hB5 1).trans (show _ = some (Value.slice none 0 0) from rfl)
    clear hB4 hB5 hB3 hb4 hb5
    go_wp2
    go_ret
    exact ⟨rfl, bw5⟩
  · subst g2
    have t1 : decide ((m : Int) < 0) = false := by simp
    have t2 : ((m : Int) != (m : Int)) = false := by simp
    have t3 : decide ((q : Int) ≤ (n2 : Int)) = true := by simp; omega
    go_wp2_with fail
    rw [← HW3.out]
    go_wp2_with fail
    refine (HOV.out _ hs3).mono ?_
    rintro e w4 ⟨rfl, hk4⟩
    have hb4 : Below w3.heap.size w3 w4 := below_draws hk4
    have bw4 := bw3.trans (hb4.mono bw3.size)
    have hB4 := hB3.below hb4 hB3.lt
    have hw4 := Blk.lt hB4
    clear hs3 tb3 hk4
    go_wp2_with fail
    refine (HE.out _ (hT.below bw4)).mono ?_
    rintro e w5 ⟨rfl, hb5⟩
    have hB5 := hB4.below hb5 hB4.lt
    have bw5 := bw4.trans (hb5.mono bw4.size)
    have c0 := (Blk.cell hB5 0).trans (show _ = some (Value.slice none 0 0) from rfl)
    have c1 := (Blk.cell hB5 1).trans (show _ = some (Value.slice none 0 0) from rfl)
    clear hB4 hB5 hB3 hb4 hb5
    go_wp2
    go_ret
    exact ⟨rfl, bw5⟩
end Go.Proofs.YtgmkcmahbefcoaaDoor

/- The walk of poly.Divide. -/
set_option linter.unusedVariables false
namespace Go.Proofs.YtgmkcmahbefcoaaDoor
open Go.RowKit Zp

/-- one's own slice of elements, its block and its capacity known -/
def OwnC {p : Nat} (wr : World) (base g n c : Nat) (L : List (Fin p)) : Prop := L.length = n ∧ Own wr base (.slice (some ⟨g, 0, none⟩) n c) (fvs L)
section
variable {p : Nat} [NeZero p] {wr w' : World} {base g n c : Nat} {L : List (Fin p)}
theorem OwnC.at_ (h : OwnC wr base g n c L) (j : Nat) (hj : j < n) : wr.cell? ⟨g, j, none⟩ = some (vi (fv (co L j))) := by
  have hl := h.1
  have := Own.at_ h.2 (by simp [hl]) j (by simp [hl]; omega)
  rw [this, co_of_lt (by omega), List.getElem_map]
omit [NeZero p] in
theorem OwnC.frozen (h : OwnC wr base g n c L) (j : Nat) : wr.frozen? ⟨g, j, none⟩ = false := Own.frozen_ h.2 (by simp [h.1]) j
omit [NeZero p] in
theorem OwnC.store (h : OwnC wr base g n c L) (j : Nat) (x : Fin p) : OwnC (wr.setCell ⟨g, j, none⟩ (vi (fv x))) base g n c (L.set j x) := by
  refine ⟨by simp [h.1], ?_⟩
  have := Own.store h.2 (by simp [h.1]) j (fv x)
  rwa [← List.map_set] at this
omit [NeZero p] in
theorem OwnC.lt (h : OwnC wr base g n c L) : base ≤ g ∧ g < wr.heap.size := h.2.lt g rfl
omit [NeZero p] in
theorem OwnC.far (h : OwnC wr base g n c L) {q : Addr} (hq : g ≠ q.block) (u : Value) : OwnC (wr.setCell q u) base g n c L := ⟨h.1, h.2.far (fun e => hq (by injection e)) u⟩
omit [NeZero p] in
theorem OwnC.drewN (h : OwnC wr base g n c L) (k : Nat) : OwnC (wr.drewN k) base g n c L := h
omit [NeZero p] in
theorem OwnC.below (h : OwnC wr base g n c L) (hb : Below wr.heap.size wr w') : OwnC w' base g n c L := ⟨h.1, h.2.below hb⟩
omit [NeZero p] in
theorem OwnC.alloc (h : OwnC wr base g n c L) (o : Obj) : OwnC (wr.alloc o) base g n c L := ⟨h.1, h.2.alloc' o⟩
omit [NeZero p] in
theorem OwnC.sl (h : OwnC wr base g n c L) : SL wr (some ⟨g, 0, none⟩) (fvs L) := by
  obtain ⟨A, c, h1, h2⟩ := h.2.len
  injection h1 with h1 _ _
  rw [h1]; exact h2
theorem OwnC.made (w : World) (base n : Nat) (hb : base ≤ w.heap.size) (hc : n * 8 ≤ 281474976710656) : OwnC (p := p) (w.alloc (.cells (zeros n) 3)) base w.heap.size n n (List.replicate n 0) := OwnE.made w base n hb hc
end

theorem ptrim_n (p : Nat) [NeZero p] (hp2 : p ≤ 2147483647) (b : Nat) (A : Option Addr) (n cap : Nat) (xs : List Int) (hml : xs.length = n) (hxs : ∀ n ∈ xs, I64 n) (hreach : n * 8 ≤ 281474976710656) (hcap : n ≤ cap) (w : World) (hc : w.cell? ⟨b, 0, none⟩ = some (vi p)) (hs : SL w A xs) :
    Calls Tryd.prog 78 #[.pointer (some ⟨b, 0, none⟩), .slice A n cap] w fun e w' => Made (fvs (trimL (els p xs))) w e w' := by
  subst hml
  exact trim_any p hp2 b A cap xs hxs hreach hcap w hc hs

/-- quotient and rest are handed back -/
def MadeQR (Q R : List Int) (w : World) (e : Ending) (w' : World) : Prop := ∃ v1 v2, e = .returned (.tuple #[v1, v2, .nilIface]) ∧ Own w' w.heap.size v1 Q ∧ Own w' w.heap.size v2 R ∧ Below w.heap.size w w'
def MadeDiv {p : Nat} [NeZero p] (a b : List (Fin p)) (w : World) (e : Ending) (w' : World) : Prop := ∃ Q R, DivOk a b Q R ∧ MadeQR (fvs Q) (fvs R) w e w'
theorem divOk_trim {p : Nat} [NeZero p] {a b Q R : List (Fin p)} (h : DivOk (trimL a) (trimL b) Q R) : DivOk a b Q R := ⟨h.tq, h.tr, by have := h.lt; rwa [trimL_trim] at this, by have := h.eq; rwa [ofL_trim, ofL_trim] at this⟩

abbrev NoDivE : Ending := .returned (.tuple #[.slice none 0 0, .slice none 0 0, .iface 70 (.int .i64 3)])
theorem pdiv_zero (p : Nat) [NeZero p] (hp2 : p ≤ 2147483647) (b : Nat) (A B : Option Addr) (na ca nb cb : Nat) (ys : List Int) (hnb : ys.length = nb) (hys : ∀ n ∈ ys, I64 n) (hry : nb * 8 ≤ 281474976710656) (hcy : nb ≤ cb)
    (hz : trimL (els p ys) = []) (w : World) (hc : w.cell? ⟨b, 0, none⟩ = some (vi p)) (hsy : SL w B ys) :
    Calls Tryd.prog 88 #[.pointer (some ⟨b, 0, none⟩), .slice A na ca, .slice B nb cb] w fun e w' => e = NoDivE ∧ Below w.heap.size w w' := by
  have HT := Lib.hid (ptrim_n p hp2 b B nb cb ys hnb hys hry hcy w hc hsy)
  have HZ := Lib.hid hz
  clear hz hnb
  go_enter Tryd.func88, Tryd.ntmps88
  go_wp2_with fail
  refine (HT.out).mono ?_
  rintro e w1 ⟨v, rfl, hown, hb1⟩
  rw [HZ.out] at hown
  obtain ⟨A1, n1, c1, rfl, hl1, _⟩ := hown.shapeN
  have h0 : n1 = 0 := by rw [← hl1]; rfl
  subst h0
  clear hl1 hown
  go_wp2
  go_ret3
  exact ⟨rfl, hb1⟩

/-- a counter that falls: j more rounds -/
def IdxAt (j : Nat) (i : Value) : Prop := (j = 0 ∧ i = vi (-1)) ∨ ∃ m : Nat, j = m + 1 ∧ i = vi m
theorem idxAt (j : Nat) (x : Int) (h : x = (j : Int) - 1) : IdxAt j (vi x) := by
  subst h
  cases j with
  | zero => exact .inl ⟨rfl, rfl⟩
  | succ m => exact .inr ⟨m, rfl, by congr 1; omega⟩
/-- what the program's division knows at the head of its loop -/
def DivRel {p : Nat} [NeZero p] (al bl : List (Fin p)) (last nq na c1 g1 gq : Nat) (w1 : World) (i : Value) (wr : World) : Prop :=
  ∃ (j : Nat) (Q R : List (Fin p)), j ≤ nq ∧ IdxAt j i ∧ OwnC wr w1.heap.size gq nq nq Q ∧ OwnC wr w1.heap.size g1 na c1 R ∧ Divs al bl last j Q R ∧ Below w1.heap.size w1 wr
def DivIn {p : Nat} [NeZero p] (bl : List (Fin p)) (c : Fin p) (m nb nq na c1 g1 gq : Nat) (Q R : List (Fin p)) (w1 : World) (t : Value) (wr : World) : Prop :=
  ∃ (k : Nat) (M : List (Fin p)), k ≤ nb ∧ t = vi k ∧ OwnC wr w1.heap.size gq nq nq Q ∧ OwnC wr w1.heap.size g1 na c1 M ∧ Dived bl c m k R M ∧ Below w1.heap.size w1 wr
theorem divs_start {p : Nat} [NeZero p] (al bl : List (Fin p)) (last nq na : Nat) (hal : al.length = na) (h : na ≤ nq + last) : Divs al bl last nq (List.replicate nq 0) al :=
  ⟨fun i _ => co_replicate _ _, fun i hi => co_of_ge (by omega), fun i => by rw [co_mulL_zero_left (fun i => co_replicate _ _)]; grind⟩

set_option maxRecDepth 100000 in
set_option maxHeartbeats 4000000 in
theorem pdiv_any (p : Nat) [NeZero p] (hp : IsPrime p) (hp1 : 2 ≤ p) (hp2 : p ≤ 2147483647) (b : Nat) (A B : Option Addr) (na0 ca nb0 cb : Nat) (xs ys : List Int) (hna : xs.length = na0) (hnb : ys.length = nb0) (hxs : ∀ n ∈ xs, I64 n) (hys : ∀ n ∈ ys, I64 n)
    (hrx : na0 * 8 ≤ 140737488351232) (hry : nb0 * 8 ≤ 140737488351232) (hcx : na0 ≤ ca) (hcy : nb0 ≤ cb) (hnz : trimL (els p ys) ≠ []) (w : World) (hc : w.cell? ⟨b, 0, none⟩ = some (vi p)) (hsx : SL w A xs) (hsy : SL w B ys) :
    Calls Tryd.prog 88 #[.pointer (some ⟨b, 0, none⟩), .slice A na0 ca, .slice B nb0 cb] w fun e w' => MadeDiv (els p xs) (els p ys) w e w' := by
  have hbl : b < w.heap.size := block_lt_of_cell hc
  have hT1 := ptrim_n p hp2 b B nb0 cb ys hnb hys (by omega) hcy w hc hsy
  have hT2 := fun W hcW hsW => ptrim_n p hp2 b A na0 ca xs hna hxs (by omega) hcx W hcW hsW
  have hdiv := fun Q R (h : DivOk (trimL (els p xs)) (trimL (els p ys)) Q R) => divOk_trim h
  have htb := trimL_trim (els p ys)
  have hlb : (trimL (els p ys)).length ≤ nb0 := by rw [← hnb]; have := trimL_length_le (els p ys); simpa using this
  have hla : (trimL (els p xs)).length ≤ na0 := by rw [← hna]; have := trimL_length_le (els p xs); simpa using this
  have hpos : 0 < (trimL (els p ys)).length := List.length_pos_iff.2 hnz
  have htop : co (trimL (els p ys)) ((trimL (els p ys)).length - 1) ≠ 0 := by have := top_ne hpos; rwa [co_trim]
  generalize trimL (els p ys) = bl at hT1 hdiv htb hlb hpos htop
  generalize trimL (els p xs) = al at hT2 hdiv hla
  obtain ⟨last, hlast⟩ : ∃ last, bl.length = last + 1 := ⟨bl.length - 1, by omega⟩
  obtain ⟨na, hal⟩ : ∃ na, al.length = na := ⟨_, rfl⟩
  rw [hlast, Nat.add_sub_cancel] at htop
  rw [hlast] at hlb
  rw [hal] at hla
  obtain ⟨Iv, hIv⟩ : ∃ Iv, Iv = Zp.inv (co bl last) := ⟨_, rfl⟩
  have hI1 : Iv * co bl last = 1 := by rw [hIv]; exact inv_mul' hp htop
  have hinv := fun W hcW => inv_any p hp1 hp2 b (fv (co bl last)) (i64_fv _ hp2) W hcW
  rw [el_fv, ← hIv] at hinv
  have HT1 := Lib.hid hT1
  have HT2 := Lib.hid hT2
  have HDIV := Lib.hid hdiv
  have HTB := Lib.hid htb
  have HLAST := Lib.hid hlast
  have HAL := Lib.hid hal
  have HI1 := Lib.hid hI1
  have HINV := Lib.hid hinv
  clear hT1 hT2 hdiv htb hlast hal hI1 hinv hIv htop hpos hnz hna hnb
  go_enter Tryd.func88, Tryd.ntmps88
  go_wp2_with fail
  refine (HT1.out).mono ?_
  rintro e w1 ⟨v1, rfl, hown1, hb1⟩
  have hl1' : (fvs bl).length = last + 1 := by rw [List.length_map]; exact HLAST.out
  obtain ⟨g2, c2, rfl, hg2, hg2'⟩ := hown1.block (by omega)
  have hcr1 := (hb1.cell (p := ⟨b, 0, none⟩) hbl).trans hc
  have hbl1 : b < w1.heap.size := block_lt_of_cell hcr1
  have hsx1 := hsx.below hb1
  obtain ⟨nb, hnb⟩ : ∃ nb, nb = last + 1 := ⟨_, rfl⟩
  rw [← hnb] at hl1'
  rw [hl1'] at hown1 ⊢
  have H1 := Lib.hid hl1'
  have t1 : ((nb : Int) == 0) = false := by rw [beq_eq_false_iff_ne]; omega
  clear hl1'
  go_wp2_with fail
  refine (HT2.out _ hcr1 hsx1).mono ?_
  rintro e w2 ⟨v2, rfl, hown2, hb2⟩
  have hl2' : (fvs al).length = na := by rw [List.length_map]; exact HAL.out
  have hcr2 := (hb2.cell (p := ⟨b, 0, none⟩) hbl1).trans hcr1
  have hb12 := hb1.trans (hb2.mono hb1.size)
  have hown1' := hown1.below hb2
  have hcl : w2.cell? ⟨g2, last, none⟩ = some (vi (fv (co bl last))) := by
    have := hown1'.at_ H1.out.symm last (by rw [H1.out]; omega)
    rw [this, co_of_lt (by rw [HLAST.out]; omega), List.getElem_map]
  have i1 : (0 : Int) ≤ (last : Int) := by omega
  have i2 : (last : Int) < nb := by omega
  have i3 : (nb : Int) - 1 = (last : Int) := by omega
  have HNB := Lib.hid hnb
  clear hnb
  by_cases hle : na ≤ last
  · -- no round at all
    obtain ⟨A2, n2, cc2, rfl, hl2, hcc2, hm2, hs2⟩ := hown2.shapeN
    have e2 : n2 = na := by rw [← hl2]; exact hl2'
    subst e2
    have H2 := Lib.hid hl2
    have hmk : ∀ w : World, (Instr.makeSlice 23 (.int .i64 0) (.int .i64 0)).run Tryd.prog w = .ok (.slice (some ⟨w.heap.size, 0, none⟩) 0 0) (w.alloc (.cells (zeros 0) 3)) := make_ints 0 0 (Nat.le_refl _) (by omega)
    have j1 : (n2 : Int) - last ≤ 0 := by omega
    have hdz := HDIV.out _ _ ((divs_start al bl last 0 n2 HAL.out (by omega)).done (by rw [HTB.out]; exact HLAST.out))
    have hba : Below w2.heap.size w2 (w2.alloc (.cells (zeros 0) 3)) := (Below.refl _ _).alloc (Nat.le_refl _) _
    have hq := OwnC.made (p := p) w2 w2.heap.size 0 (Nat.le_refl _) (by omega)
    have hcr3 := (hba.cell (p := ⟨b, 0, none⟩) (block_lt_of_cell hcr2)).trans hcr2
    have ht1 := fun W hcW hsW => ptrim_n p hp2 b (some ⟨w2.heap.size, 0, none⟩) 0 0 (fvs (List.replicate 0 (0 : Fin p))) (by simp) (i64_fvs _ hp2) (by omega) (Nat.le_refl _) W hcW hsW
    have ht2 := fun W hcW hsW => ptrim_n p hp2 b A2 n2 cc2 (fvs al) hl2 (i64_fvs _ hp2) (by omega) hcc2 W hcW hsW
    simp only [els_fvs] at ht1 ht2
    have hsq := hq.sl
    have hs3 := hs2.below hba
    have hb3 := hb12.trans (hba.mono hb12.size)
    generalize trimL (List.replicate 0 (0 : Fin p)) = Q at hdz ht1
    generalize trimL al = R at hdz ht2
    generalize fvs (List.replicate 0 (0 : Fin p)) = zq at hsq ht1
    have HDZ := Lib.hid hdz
    have HQ1 := Lib.hid ht1
    have HQ2 := Lib.hid ht2
    clear hdz ht1 ht2 hq hown1 hown1' hown2 hl2' hs2 hsx1 hsy hsx hl2
    go_wp2_with fail
    refine (HINV.out _ hcr2).mono ?_
    rintro e w' ⟨rfl, rfl⟩
    go_wp2
    go_loopw [11] (fun i wr => i = vi (-1) ∧ wr = w2.alloc (.cells (zeros 0) 3)) (fun i _ => 0)
    case atStart => exact ⟨rfl, rfl⟩
    case round =>
      obtain ⟨rfl, rfl⟩ := hrel
      go_wp2_with fail
      refine (HQ1.out _ hcr3 hsq).mono ?_
      rintro e w4 ⟨v4, rfl, hown4, hb4⟩
      have hs4 := hs3.below hb4
      have hcr4 := (hb4.cell (p := ⟨b, 0, none⟩) (block_lt_of_cell hcr3)).trans hcr3
      go_wp2_with fail
      refine (HQ2.out _ hcr4 hs4).mono ?_
      rintro e w5 ⟨v5, rfl, hown5, hb5⟩
      go_wp2
      go_ret3
      exact ⟨Q, R, HDZ.out, v4, v5, rfl, (hown4.below hb5).more hb3.size, hown5.more (hb3.trans (hb4.mono hb3.size)).size, (hb3.trans (hb4.mono hb3.size)).trans (hb5.mono (hb3.trans (hb4.mono hb3.size)).size)⟩
  · obtain ⟨nq, hnq⟩ : ∃ nq, nq + last = na := ⟨na - last, by omega⟩
    obtain ⟨g1, c1, rfl, hg1, hg1'⟩ := hown2.block (by rw [hl2']; omega)
    rw [hl2'] at hown2 ⊢
    have H2 := Lib.hid hl2'
    have hmk := make_ints nq nq (Nat.le_refl _) (by omega)
    have j1 : ¬ (na : Int) - last ≤ 0 := by omega
    have j2 : (na : Int) - last = (nq : Int) := by omega
    have HNQ := Lib.hid hnq
    have hown2c : OwnC w2 w1.heap.size g1 na c1 al := ⟨HAL.out, hown2⟩
    have hOE := OwnC.made (p := p) w2 w1.heap.size nq hb2.size (by omega)
    have hst := divs_start al bl last nq na HAL.out (by omega)
    have HST := Lib.hid hst
    have hb1a : Below w1.heap.size w1 (w2.alloc (.cells (zeros nq) 3)) := hb2.alloc hb2.size _
    have hcc1 : na ≤ c1 := by
      obtain ⟨A9, n9, c9, e9, _, h9, _⟩ := hown2.shapeN
      injection e9 with _ e9b e9c
      omega
    clear hl2' hown2 hst hle hnq
    go_wp2_with fail
    refine (HINV.out _ hcr2).mono ?_
    rintro e w' ⟨rfl, rfl⟩
    go_wp2
    go_loopw [11] (fun i wr => DivRel al bl last nq na c1 g1 w2.heap.size w1 i wr) (fun i _ => (intOf i + 1).toNat)
    case atStart => exact ⟨nq, _, al, Nat.le_refl _, idxAt _ _ rfl, hOE, hown2c.alloc _, HST.out, hb1a⟩
    case round =>
      obtain ⟨j, Q, R, hj, hi, hoq, hor, hdv, hb⟩ := hrel
      have hcr : wr.cell? ⟨b, 0, none⟩ = some (vi p) := (hb.cell (p := ⟨b, 0, none⟩) hbl1).trans hcr1
      have HDVS := Lib.hid hdv
      clear hdv
      rcases hi with ⟨rfl, rfl⟩ | ⟨m, rfl, rfl⟩
      · have hdz := HDIV.out _ _ (HDVS.out.done (by rw [HTB.out]; exact HLAST.out))
        have hlq : (fvs Q).length = nq := by rw [List.length_map]; exact hoq.1
        have hlr : (fvs R).length = na := by rw [List.length_map]; exact hor.1
        have hq1 := fun W hcW hsW => ptrim_n p hp2 b (some ⟨w2.heap.size, 0, none⟩) nq nq (fvs Q) hlq (i64_fvs _ hp2) (by omega) (Nat.le_refl _) W hcW hsW
        have hq2 := fun W hcW hsW => ptrim_n p hp2 b (some ⟨g1, 0, none⟩) na c1 (fvs R) hlr (i64_fvs _ hp2) (by omega) hcc1 W hcW hsW
        simp only [els_fvs] at hq1 hq2
        have hsq := hoq.sl
        have hsr := hor.sl
        generalize trimL Q = Q' at hdz hq1
        generalize trimL R = R' at hdz hq2
        have HDZ := Lib.hid hdz
        have HQ1 := Lib.hid hq1
        have HQ2 := Lib.hid hq2
        have hb0 := hb1.trans (hb.mono hb1.size)
        clear hdz hq1 hq2 hlq hlr
        go_wp2_with fail
        refine (HQ1.out _ hcr hsq).mono ?_
        rintro e w4 ⟨v4, rfl, hown4, hb4⟩
        have hs4 := hsr.below hb4
        have hcr4 := (hb4.cell (p := ⟨b, 0, none⟩) (block_lt_of_cell hcr)).trans hcr
        go_wp2_with fail
        refine (HQ2.out _ hcr4 hs4).mono ?_
        rintro e w5 ⟨v5, rfl, hown5, hb5⟩
        go_wp2
        go_ret3
        exact ⟨Q', R', HDZ.out, v4, v5, rfl, (hown4.below hb5).more hb0.size, hown5.more (hb0.trans (hb4.mono hb0.size)).size, (hb0.trans (hb4.mono hb0.size)).trans (hb5.mono (hb0.trans (hb4.mono hb0.size)).size)⟩
      · have hmn : m < nq := by omega
        have hml : m + last < na := by have := HNQ.out; omega
        have hcR := hor.at_ (m + last) hml
        have hfQ := hoq.frozen m
        have hcQ := hoq.at_ m hmn
        generalize co Q m = oq at hcQ
        obtain ⟨X, hX⟩ : ∃ X, X = co R (m + last) := ⟨_, rfl⟩
        rw [← hX] at hcR
        obtain ⟨C, hC⟩ : ∃ C, C = X * Iv := ⟨_, rfl⟩
        have hmul := fun W hcW => mul_any p hp2 b (fv X) (fv Iv) (i64_fv _ hp2) (i64_fv _ hp2) W hcW
        rw [el_fv, el_fv, ← hC] at hmul
        have HMUL := Lib.hid hmul
        have HC := Lib.hid (show C = co R (m + last) * Iv by rw [hC, hX])
        clear hX hC hmul
        have k1 : (0 : Int) ≤ (m : Int) := by omega
        have k2 : (m : Int) < nq := by omega
        have k3 : (0 : Int) ≤ (m : Int) + last := by omega
        have k4 : (m : Int) + last < na := by omega
        have k5 : ((m : Int) + last).toNat = m + last := by omega
        have k6 : IntKind.i64.wrap ((m : Int) + last) = (m : Int) + last := IntWalk.i64_in _ (by omega)
        go_wp2_with fail
        refine (HMUL.out _ hcr).mono ?_
        rintro e w' ⟨rfl, kk, rfl⟩
        have hoq1 := (hoq.drewN kk).store m C
        have hor1 := (hor.drewN kk).far (q := ⟨w2.heap.size, m, none⟩) (by show g1 ≠ w2.heap.size; omega) (vi (fv C))
        have hb1r := (below_drewN hb kk).setCell (p := ⟨w2.heap.size, m, none⟩) hb2.size (vi (fv C))
        clear k3 k4 k5 k6 hcR
        go_wp2
        go_loopw [60] (fun t wr => DivIn bl C m nb nq na c1 g1 w2.heap.size (Q.set m C) R w1 t wr) (fun t _ => nb - (intOf t).toNat)
        case atStart => exact ⟨0, R, Nat.zero_le _, rfl, hoq1, hor1, Dived.start _ _ _ _, hb1r⟩
        case round =>
          obtain ⟨k, M, hk, rfl, hoq', hor', hdd, hb'⟩ := hrel
          have HDD := Lib.hid hdd
          clear hdd
          by_cases hlk : k < nb
          · have hcr' : wr.cell? ⟨b, 0, none⟩ = some (vi p) := (hb'.cell (p := ⟨b, 0, none⟩) hbl1).trans hcr1
            have hmk' : m + k < na := by have := HNB.out; omega
            have hc2 : wr.cell? ⟨g2, k, none⟩ = some (vi (fv (co bl k))) := by
              have := (hown1.below hb').at_ H1.out.symm k (by rw [H1.out]; exact hlk)
              rw [this, co_of_lt (by rw [HLAST.out, ← HNB.out]; exact hlk), List.getElem_map]
            have hcR := hor'.at_ (m + k) hmk'
            have hfR := hor'.frozen (m + k)
            have hcQ := hoq'.at_ m hmn
            rw [co_set _ _ _ (by rw [hoq.1]; exact hmn), if_pos rfl] at hcQ
            obtain ⟨Y, hY⟩ : ∃ Y, Y = co bl k := ⟨_, rfl⟩
            rw [← hY] at hc2
            obtain ⟨o, ho⟩ : ∃ o, o = co M (m + k) := ⟨_, rfl⟩
            rw [← ho] at hcR
            obtain ⟨T, hT⟩ : ∃ T, T = C * Y := ⟨_, rfl⟩
            obtain ⟨U, hU⟩ : ∃ U, U = o - T := ⟨_, rfl⟩
            have hst := HDD.out.step (by rw [hor.1]; exact hmk')
            rw [← ho, ← hY, ← hT, ← hU] at hst
            have hmul := fun W hcW => mul_any p hp2 b (fv C) (fv Y) (i64_fv _ hp2) (i64_fv _ hp2) W hcW
            rw [el_fv, el_fv, ← hT] at hmul
            have hsub := fun W hcW => sub_any p hp2 b (fv o) (fv T) (i64_fv _ hp2) (i64_fv _ hp2) W hcW
            rw [el_fv, el_fv, ← hU] at hsub
            have HMUL := Lib.hid hmul
            have HSUB := Lib.hid hsub
            have HST := Lib.hid hst
            clear hmul hsub hst hY ho hT hU
            have i3 : (0 : Int) ≤ (k : Int) := by omega
            have i4 : (k : Int) < nb := by omega
            have i5 : (0 : Int) ≤ (m : Int) + k := by omega
            have i6 : (m : Int) + k < na := by omega
            have i7 : ((m : Int) + k).toNat = m + k := by omega
            have i8 : IntKind.i64.wrap ((m : Int) + k) = (m : Int) + k := IntWalk.i64_in _ (by omega)
            have hmx : Tryd.prog.follows .mixedOrders = true := by kernel_rfl
            go_wp2
            refine wp_region_quiet_tail 20 hmx (by kernel_rfl) ?_
            simp only [List.take_succ_cons, List.take_zero, List.drop_succ_cons, List.drop_zero]
            repeat (quiet_step (first | (go_at_call 47; exact Calls.quiet_of (HMUL.out _ (by exact hcr'))) | (go_at_call 94; exact quiet_eq (HSUB.out _ (by exact hcr')))))
            refine wpQuiet_nil ?_
            intro _ hw'
            obtain ⟨nq1, hw''⟩ := hw'
            subst hw''
            have hoq2 := (hoq'.drewN nq1).far (q := ⟨g1, m + k, none⟩) (by show w2.heap.size ≠ g1; omega) (vi (fv U))
            have hor2 := (hor'.drewN nq1).store (m + k) U
            have hb2r := (below_drewN hb' nq1).setCell (p := ⟨g1, m + k, none⟩) hg1 (vi (fv U))
            clear i5 i6 i7 i8
            go_wp2
            go_roundw
            case rel => exact ⟨k + 1, _, by omega, by go_num, hoq2, hor2, HST.out, hb2r⟩
            case measure => simp [intOf]; omega
          · obtain rfl : k = nb := by omega
            have hdn := HDVS.out.step HLAST.out HI1.out (by rw [hoq.1]; exact hmn) HC.out (by rw [HLAST.out, ← HNB.out]; exact HDD.out)
            have HDN := Lib.hid hdn
            clear hdn
            go_wp2
            go_roundw
            case rel => exact ⟨m, _, M, by omega, idxAt _ _ (by first | rfl | omega), hoq', hor', HDN.out, hb'⟩
            case measure => simp [intOf]
end Go.Proofs.YtgmkcmahbefcoaaDoor

/- The walk of poly.Vanish. -/
set_option linter.unusedVariables false
namespace Go.Proofs.YtgmkcmahbefcoaaDoor
open Go.RowKit Zp

set_option maxRecDepth 100000 in
set_option maxHeartbeats 4000000 in
theorem pvan_any (p : Nat) [NeZero p] (hp : IsPrime p) (hp1 : 2 ≤ p) (hp2 : p ≤ 2147483647) (b : Nat) (A : Option Addr) (na ca : Nat) (xs : List Int) (hna : xs.length = na) (hxs : ∀ n ∈ xs, I64 n) (hr : na * 8 ≤ 140737488351232) (w : World) (hc : w.cell? ⟨b, 0, none⟩ = some (vi p)) (hsx : SL w A xs) :
    Calls Tryd.prog 76 #[.pointer (some ⟨b, 0, none⟩), .slice A na ca] w fun e w' => Made (fvs (vanL (els p xs))) w e w' := by
  have hbl : b < w.heap.size := block_lt_of_cell hc
  obtain ⟨l, hl⟩ : ∃ l, l = els p xs := ⟨_, rfl⟩
  rw [← hl]
  have hll : l.length = na := by rw [hl]; simp [hna]
  have hco : ∀ k (hk : k < xs.length) (hk' : k < l.length), l[k] = el p xs[k] := fun k hk hk' => by simp [hl]
  have ho1 : OwnC (w.alloc (.cells #[vi 1] 3)) w.heap.size w.heap.size (0 + 1) (0 + 1) (vanL (l.take 0)) := by
    refine ⟨rfl, ?_⟩
    have h := own_lit w w.heap.size [1] (Nat.le_refl _) (by simp [maxLen])
    have e : fvs (vanL (l.take 0)) = [1] := by rw [List.take_zero, vanL]; simp [fv_one hp1]
    rw [e]; exact h
  have HO1 := Lib.hid ho1
  have HLL := Lib.hid hll
  have HCO := Lib.hid hco
  have HNA := Lib.hid hna
  have HP := Lib.hid hp
  clear hl hll hna hco ho1 hp
  go_enter Tryd.func76, Tryd.ntmps76
  go_wp2
  go_loopw [5, 14] (fun v i wr => ∃ k g : Nat, k ≤ na ∧ i = vi k ∧ v = .slice (some ⟨g, 0, none⟩) (k + 1) (k + 1) ∧ OwnC wr w.heap.size g (k + 1) (k + 1) (vanL (l.take k)) ∧ Below w.heap.size w wr) (fun _ i _ => na - (intOf i).toNat)
  case atStart => exact ⟨0, w.heap.size, Nat.zero_le _, rfl, rfl, HO1.out, (Below.refl _ _).alloc (Nat.le_refl _) _⟩
  case round =>
    obtain ⟨k, g, hk, rfl, rfl, hown, hb⟩ := hrel
    obtain ⟨W0, hW0⟩ : ∃ W0 : World, W0 = wr := ⟨_, rfl⟩
    subst hW0
    by_cases hkn : k < na
    · have hkl : k < l.length := by rw [HLL.out]; exact hkn
      have hkx : k < xs.length := by rw [HNA.out]; exact hkn
      obtain ⟨ad, rfl, hab, hcell⟩ := (hsx.below hb).at_ hkx
      have hI := hxs _ (List.getElem_mem hkx)
      have hcr : W0.cell? ⟨b, 0, none⟩ = some (vi p) := (hb.cell (p := ⟨b, 0, none⟩) hbl).trans hc
      have hblr : b < W0.heap.size := block_lt_of_cell hcr
      have hst : vanL (l.take (k + 1)) = vanS (vanL (l.take k)) (el p xs[k]) := by
        rw [List.take_succ_eq_append_getElem hkl, vanL_snoc, HCO.out k hkx hkl]
      have hmo : Monic (vanL (l.take k)) k := by
        have h := monic_van HP.out (l.take k)
        rwa [List.length_take, Nat.min_eq_left (by omega)] at h
      generalize xs[k] = x at hcell hI hst
      generalize vanL (l.take k) = O at hown hmo hst
      obtain ⟨nx, hnx⟩ : ∃ nx, nx = k + 2 := ⟨_, rfl⟩
      have hOE := OwnC.made (p := p) W0 w.heap.size nx hb.size (by omega)
      have hmk := make_ints nx nx (Nat.le_refl _) (by omega)
      have en : (nx : Int) = (k : Int) + 1 + 1 := by omega
      rw [en] at hmk
      have HNX := Lib.hid hnx
      have HST := Lib.hid hst
      have HMO := Lib.hid hmo
      have hvs := VanIn.start O (el p x) nx (by rw [hmo.len, hnx])
      have HVS := Lib.hid hvs
      have hg := hown.lt
      have hba : Below W0.heap.size W0 (W0.alloc (.cells (zeros nx) 3)) := (Below.refl _ _).alloc (Nat.le_refl _) _
      obtain ⟨G, hG⟩ : ∃ G, G = W0.heap.size := ⟨_, rfl⟩
      have ewk : IntKind.i64.wrap ((k : Int) + 1 + 1) = (k : Int) + 1 + 1 := IntWalk.i64_in _ (by omega)
      have ewk1 : IntKind.i64.wrap ((k : Int) + 1) = (k : Int) + 1 := IntWalk.i64_in _ (by omega)
      clear hst hmo hvs en hnx
      go_wp2
      go_loopw [24] (fun t wr => ∃ (j : Nat) (N : List (Fin p)), j ≤ k + 1 ∧ t = vi j ∧ OwnC wr w.heap.size W0.heap.size nx nx N ∧ VanIn O (el p x) j N ∧ Below W0.heap.size W0 wr) (fun t _ => k + 1 - (intOf t).toNat)
      case atStart => exact ⟨0, _, Nat.zero_le _, rfl, hOE, HVS.out, hba⟩
      case round =>
        obtain ⟨j, N, hj, rfl, hoN, hvi, hb'⟩ := hrel
        by_cases hjk : j ≤ k
        · have hcr' : W0.cell? ⟨b, 0, none⟩ = some (vi p) := hcr
          have hcq : wr.cell? ⟨b, 0, none⟩ = some (vi p) := (hb'.cell (p := ⟨b, 0, none⟩) hblr).trans hcr
          have hcO := (hown.below hb').at_ j (by omega)
          have hj1 : j + 1 < nx := by rw [HNX.out]; omega
          have hcA := hoN.at_ (j + 1) hj1
          have hfA := hoN.frozen (j + 1)
          have hcB := hoN.at_ j (by omega)
          have hfB := hoN.frozen j
          obtain ⟨y, hy⟩ : ∃ y, y = co O j := ⟨_, rfl⟩
          rw [← hy] at hcO
          obtain ⟨a0, ha0⟩ : ∃ a0, a0 = co N (j + 1) := ⟨_, rfl⟩
          rw [← ha0] at hcA
          obtain ⟨c0, hc0⟩ : ∃ c0, c0 = co N j := ⟨_, rfl⟩
          rw [← hc0] at hcB
          obtain ⟨a1, ha1⟩ : ∃ a1, a1 = a0 + y := ⟨_, rfl⟩
          obtain ⟨T, hT⟩ : ∃ T, T = el p x * y := ⟨_, rfl⟩
          obtain ⟨c1, hc1⟩ : ∃ c1, c1 = c0 - T := ⟨_, rfl⟩
          have hvst := hvi.step (by rw [HMO.out.len]; omega) (a := a1) (c := c1) (by rw [ha1, ha0, hy]) (by rw [hc1, hc0, hT, hy])
          have hadd := fun W hcW => add_any p hp2 b (fv a0) (fv y) (i64_fv _ hp2) (i64_fv _ hp2) W hcW
          rw [el_fv, el_fv, ← ha1] at hadd
          have hmul := fun W hcW => mul_any p hp2 b x (fv y) hI (i64_fv _ hp2) W hcW
          rw [el_fv, ← hT] at hmul
          have hsub := fun W hcW => sub_any p hp2 b (fv c0) (fv T) (i64_fv _ hp2) (i64_fv _ hp2) W hcW
          rw [el_fv, el_fv, ← hc1] at hsub
          have HADD := Lib.hid hadd
          have HMUL := Lib.hid hmul
          have HSUB := Lib.hid hsub
          have HVST := Lib.hid hvst
          clear hadd hmul hsub hvst hy ha0 hc0 ha1 hT hc1 hvi
          have i3 : (0 : Int) ≤ (j : Int) := by omega
          have i4 : (j : Int) < (k : Int) + 1 := by omega
          have i5 : (0 : Int) ≤ (j : Int) + 1 := by omega
          have i6 : (j : Int) + 1 < nx := by omega
          have i6b : (j : Int) < nx := by omega
          have i7 : ((j : Int) + 1).toNat = j + 1 := by omega
          have i8 : IntKind.i64.wrap ((j : Int) + 1) = (j : Int) + 1 := IntWalk.i64_in _ (by omega)
          have hmx : Tryd.prog.follows .mixedOrders = true := by kernel_rfl
          go_wp2_with fail
          refine (HADD.out _ (by exact hcq)).mono ?_
          rintro e w' ⟨rfl, k1, rfl⟩
          have hne : ¬ b = W0.heap.size := by omega
          have hcq2 : ((wr.drewN k1).setCell ⟨W0.heap.size, j + 1, none⟩ (vi (fv a1))).cell? ⟨b, 0, none⟩ = some (vi p) := setCell_keep (by exact hcq) hne
          have hoN1 := (hoN.drewN k1).store (j + 1) a1
          have hb1 := (below_drewN hb' k1).setCell (p := ⟨W0.heap.size, j + 1, none⟩) (Nat.le_refl _) (vi (fv a1))
          have hcB2 := hoN1.at_ j (by omega)
          have hfB2 := hoN1.frozen j
          have hcB3 : ((wr.drewN k1).setCell ⟨W0.heap.size, j + 1, none⟩ (vi (fv a1))).cell? ⟨W0.heap.size, j, none⟩ = some (vi (fv c0)) := by
            rw [World.cell?_setCell_other _ _ _ _ (fun e => by injection e with _ e _; omega)]
            exact hcB
          clear hcB2 i5 i6 i7 i8
          go_wp2
          refine wp_region_quiet_tail 13 hmx (by kernel_rfl) ?_
          simp only [List.take_succ_cons, List.take_zero, List.drop_succ_cons, List.drop_zero]
          repeat (quiet_step (first | (go_at_call 47; exact Calls.quiet_of (HMUL.out _ (by exact hcq2))) | (go_at_call 94; exact quiet_eq (HSUB.out _ (by exact hcq2)))))
          refine wpQuiet_nil ?_
          intro _ hw'
          obtain ⟨nq1, hw''⟩ := hw'
          subst hw''
          have hoN2 := (hoN1.drewN nq1).store j c1
          have hb2 := (below_drewN hb1 nq1).setCell (p := ⟨W0.heap.size, j, none⟩) (Nat.le_refl _) (vi (fv c1))
          go_wp2
          go_roundw
          case rel => exact ⟨j + 1, _, by omega, by go_num, hoN2, HVST.out, hb2⟩
          case measure => simp [intOf]; omega
        · obtain rfl : j = k + 1 := by omega
          have hdn := VanIn.done HP.out HMO.out (by rw [HMO.out.len]; exact hvi)
          rw [← HST.out] at hdn
          subst hdn
          have hoN2 : OwnC wr w.heap.size W0.heap.size (k + 1 + 1) (k + 1 + 1) (vanL (l.take (k + 1))) := by
            have := hoN
            rwa [HNX.out] at this
          have hbb := hb.trans (hb'.mono hb.size)
          have en : (nx : Int) = (k : Int) + 1 + 1 := by have := HNX.out; omega
          clear hvi hoN
          go_wp2
          go_roundw
          case rel => exact ⟨k + 1, W0.heap.size, by omega, by go_num, by rw [HNX.out], hoN2, hbb⟩
          case measure => simp [intOf]; omega
    · obtain rfl : k = na := by omega
      have he : l.take k = l := List.take_of_length_le (by rw [HLL.out]; exact Nat.le_refl _)
      rw [he] at hown
      clear he
      go_wp2
      go_ret
      exact ⟨_, rfl, by have := hown.2; rw [Own]; exact this, hb⟩
end Go.Proofs.YtgmkcmahbefcoaaDoor

/- The walk of poly.Fit. -/
set_option linter.unusedVariables false
namespace Go.Proofs.YtgmkcmahbefcoaaDoor
open Go.RowKit Zp

theorem keyed_int : Go.Maps.Keyed Tryd.prog 3 := Go.Maps.int_keyed Tryd.underlying3
theorem zero_bool (w : World) : (zeroValue 4).run Tryd.prog w = .ok (.bool false) w := by kernel_rfl
/-- block g is a map in which just the elements of l are true -/
def SeenAt {p : Nat} (w : World) (g n : Nat) (l : List (Fin p)) : Prop :=
  ∃ D : DataW Unit, w.ownsMap Tryd.prog 3 (plainElem Tryd.prog 4) g n D ∧ ∀ z : Fin p, D.atKey (.int .i64 (fv z)) (.lit (.bool false)) = .lit (.bool (decide (z ∈ l)))
theorem SeenAt.made {p : Nat} (w : World) : SeenAt (p := p) (w.alloc (.map #[] 0)) w.heap.size 0 [] := ⟨_, World.ownsMap_made w _ _ _, fun z => by simp [DataW.atKey]⟩
theorem plain_bool_inv {P : Program} {e : TypeId} (he : P.underlying e = some .bool) {v : Value} {z : DataW Unit × List MemPlace} (h : plainElem P e v = some z) : ∃ b, v = .bool b ∧ z.1 = .lit (.bool b) := by
  unfold plainElem at h
  rw [he] at h
  cases v <;> simp at h
  subst h
  exact ⟨_, rfl, rfl⟩
theorem look_bool {P : Program} {k e t : TypeId} {w : World} {g n : Nat} {D : DataW Unit} (h : w.ownsMap P k (plainElem P e) g n D) (K : Go.Maps.Keyed P k) (ht : P.underlying t = some (.map k e)) (he : P.underlying e = some .bool) (hz : (zeroValue e).run P w = .ok (.bool false) w)
    {key : Value} {kl : Lit} (hkey : keyOf P k key = some kl) {b : Bool} (hb : D.atKey kl (.lit (.bool false)) = .lit (.bool b)) : (Instr.lookup t (.map (some g)) key false).run P w = .ok (.bool b) w := by
  obtain ⟨v, ps, hrun, hv⟩ := h.lookup K ht hz (plainElem_bool he false) hkey
  obtain ⟨c, rfl, hc⟩ := plain_bool_inv he hv
  rw [hb] at hc
  injection hc with hc
  injection hc with hc
  rw [hrun, hc]
theorem wf_fv {p : Nat} (z : Fin p) (hp2 : p ≤ 2147483647) : (Lit.int .i64 (fv z)).wf = true := by
  have h := i64_fv z hp2
  simp [Lit.wf, IntKind.min, IntKind.max, IntKind.signed, IntKind.bits]
  exact ⟨h.1, h.2⟩
theorem SeenAt.look {p : Nat} (hp2 : p ≤ 2147483647) {w : World} {g n : Nat} {l : List (Fin p)} (h : SeenAt w g n l) (z : Fin p) :
    (Instr.lookup 107 (.map (some g)) (vi (fv z)) false).run Tryd.prog w = .ok (.bool (decide (z ∈ l))) w := by
  obtain ⟨D, h1, h2⟩ := h
  exact look_bool h1 keyed_int Tryd.underlying107 Tryd.underlying4 (zero_bool w) (Go.Maps.keyOf_int_mk Tryd.underlying3 (wf_fv z hp2)) (h2 z)
theorem SeenAt.put {p : Nat} {w : World} {g n : Nat} {l : List (Fin p)} {D : DataW Unit} (h1 : w.ownsMap Tryd.prog 3 (plainElem Tryd.prog 4) g n D) (h2 : ∀ z : Fin p, D.atKey (.int .i64 (fv z)) (.lit (.bool false)) = .lit (.bool (decide (z ∈ l)))) (z : Fin p) :
    ∀ y : Fin p, (D.put (.int .i64 (fv z)) (.lit (.bool true))).atKey (.int .i64 (fv y)) (.lit (.bool false)) = .lit (.bool (decide (y ∈ l ++ [z]))) := fun y => by
  by_cases he : y = z
  · subst he
    rw [Go.Maps.atKey_put_same h1.isMap (by trivial)]; simp
  · rw [Go.Maps.atKey_put_other (fun e => he (by injection e with _ e; exact (fv_inj e))), h2]
    simp [he]

theorem pfit_len (b : Nat) (A B : Option Addr) (na ca nb cb : Nat) (hne : ¬ na = nb) (hna : na < 9223372036854775808) (hnb : nb < 9223372036854775808) (w : World) :
    Calls Tryd.prog 45 #[.pointer (some ⟨b, 0, none⟩), .slice A na ca, .slice B nb cb] w fun e w' => e = .returned (.tuple #[.slice none 0 0, .iface 70 (.int .i64 2)]) ∧ w = w' := by
  have t1 : ((na : Int) != (nb : Int)) = true := by rw [bne_iff_ne]; omega
  clear hne
  go_enter Tryd.func45, Tryd.ntmps45
  go_wp2
  go_ret2
  exact ⟨rfl, rfl⟩

def SeenRel {p : Nat} (l : List (Fin p)) (na g : Nat) (w : World) (i : Value) (wr : World) : Prop := ∃ k : Nat, k ≤ na ∧ i = vi k ∧ SeenAt wr g k (l.take k) ∧ (l.take k).Nodup ∧ Below w.heap.size w wr
theorem nodup_snoc {p : Nat} {l : List (Fin p)} {z : Fin p} (h : l.Nodup) (hz : ¬ z ∈ l) : (l ++ [z]).Nodup := by
  rw [List.nodup_append]
  refine ⟨h, by simp, fun a ha b hb => ?_⟩
  rw [List.mem_singleton] at hb
  subst hb
  rintro rfl
  exact hz ha

set_option maxRecDepth 100000 in
set_option maxHeartbeats 4000000 in
theorem pfit_same (p : Nat) [NeZero p] (hp2 : p ≤ 2147483647) (b : Nat) (A B : Option Addr) (na ca cb : Nat) (xs : List Int) (hna : xs.length = na) (hxs : ∀ n ∈ xs, I64 n) (hr : na * 8 ≤ 140737488351232) (hnd : ¬ (els p xs).Nodup) (w : World) (hc : w.cell? ⟨b, 0, none⟩ = some (vi p)) (hsx : SL w A xs) :
    Calls Tryd.prog 45 #[.pointer (some ⟨b, 0, none⟩), .slice A na ca, .slice B na cb] w fun e w' => e = .returned (.tuple #[.slice none 0 0, .iface 70 (.int .i64 4)]) ∧ Below w.heap.size w w' := by
  have hbl : b < w.heap.size := block_lt_of_cell hc
  obtain ⟨l, hl⟩ : ∃ l, l = els p xs := ⟨_, rfl⟩
  rw [← hl] at hnd
  have hll : l.length = na := by rw [hl]; simp [hna]
  have hco : ∀ k (hk : k < xs.length) (hk' : k < l.length), l[k] = el p xs[k] := fun k hk hk' => by simp [hl]
  have HLL := Lib.hid hll
  have HCO := Lib.hid hco
  have HNA := Lib.hid hna
  have HND := Lib.hid hnd
  have hs0 := SeenAt.made (p := p) w
  have hmm := @run_makeMap Tryd.prog
  clear hl hll hna hco hnd
  go_enter Tryd.func45, Tryd.ntmps45
  go_wp2
  go_loopw [30] (fun i wr => SeenRel l na w.heap.size w i wr) (fun i _ => na - (intOf i).toNat)
  case atStart => exact ⟨0, Nat.zero_le _, rfl, hs0, by simp, (Below.refl _ _).alloc (Nat.le_refl _) _⟩
  case round =>
    obtain ⟨k, hk, rfl, hsn, hnd, hb⟩ := hrel
    by_cases hkn : k < na
    · have hkl : k < l.length := by rw [HLL.out]; exact hkn
      have hkx : k < xs.length := by rw [HNA.out]; exact hkn
      obtain ⟨ad, rfl, hab, hcell⟩ := (hsx.below hb).at_ hkx
      have hI := hxs _ (List.getElem_mem hkx)
      have hcr : wr.cell? ⟨b, 0, none⟩ = some (vi p) := (hb.cell (p := ⟨b, 0, none⟩) hbl).trans hc
      have hst : l.take (k + 1) = l.take k ++ [el p xs[k]] := by rw [List.take_succ_eq_append_getElem hkl, HCO.out k hkx hkl]
      have hof := fun W hcW => of_el p hp2 b xs[k] hI W hcW
      generalize xs[k] = x at hcell hI hst hof
      generalize el p x = z at hst hof
      have HOF := Lib.hid hof
      have HST := Lib.hid hst
      have HNDK := Lib.hid hnd
      clear hof hst hnd
      have i1 : (0 : Int) ≤ (k : Int) := by omega
      have i2 : (k : Int) < na := by omega
      by_cases hz : z ∈ l.take k
      · have hlk := hsn.look hp2 z
        rw [decide_eq_true hz] at hlk
        clear hz
        go_wp2_with fail
        refine (HOF.out _ hcr).mono ?_
        rintro e w' ⟨rfl, rfl⟩
        go_wp2
        go_ret2
        exact ⟨rfl, hb⟩
      · have hlk := hsn.look hp2 z
        rw [decide_eq_false hz] at hlk
        have HZ := Lib.hid hz
        obtain ⟨D, hD1, hD2⟩ := hsn
        have HPUT := Lib.hid (SeenAt.put hD1 hD2 z)
        clear hz hD2
        go_wp2_with fail
        refine (HOF.out _ hcr).mono ?_
        rintro e w' ⟨rfl, rfl⟩
        go_wp2_with fail
        refine (HOF.out _ hcr).mono ?_
        rintro e w' ⟨rfl, rfl⟩
        go_wp2_with (at_mapUpdate; refine wpList_mapUpdate_own _ rfl _ _ _ 107 rfl 3 4 keyed_int Tryd.underlying107 _ w.heap.size k _ rfl hD1 (by simp only [maxLen]; omega) _ _ _ rfl rfl (Go.Maps.keyOf_int_mk Tryd.underlying3 (wf_fv z hp2)) _ [] (plainElem_bool Tryd.underlying4 true) ?_; intro w1 hD3 hg1)
        have hs2 : SeenAt w1 w.heap.size (k + 1) (l.take (k + 1)) := by rw [HST.out]; exact ⟨_, hD3, HPUT.out⟩
        have hb2 : Below w.heap.size w w1 := hb.grown hg1 hb.size (fun j hj => by injection hj with hj; omega)
        go_roundw
        case rel => exact ⟨k + 1, by omega, by go_num, hs2, by rw [HST.out]; exact nodup_snoc HNDK.out HZ.out, hb2⟩
        case measure => simp [intOf]; omega
    · obtain rfl : k = na := by omega
      rw [List.take_of_length_le (by rw [HLL.out]; exact Nat.le_refl _)] at hnd
      exact absurd hnd HND.out
end Go.Proofs.YtgmkcmahbefcoaaDoor

/- slices.Backward at []int as an iterator; the walk of poly.Eval. After the guide's own text on slices.All. -/
set_option linter.unusedVariables false
namespace Go.Proofs.YtgmkcmahbefcoaaDoor
open Go.RowKit Go.Shelf Zp
attribute [local go_sem] Oper.semAt_some

abbrev Int64' := { n : Int // I64 n }
/-- what has come when k rounds are over -/
def upto {α : Type} (f : Nat → α) (k : Nat) : List α := (List.range k).map f
theorem upto_succ {α : Type} (f : Nat → α) (k : Nat) : upto f (k + 1) = upto f k ++ [f k] := by simp [upto, List.range_succ]
theorem upto_length {α : Type} (f : Nat → α) (k : Nat) : (upto f k).length = k := by simp [upto]

/-- the pairs that come, from the last place on -/
def backF (zs : List Int64') (j : Nat) : Nat × Int64' := (zs.length - 1 - j, zs[zs.length - 1 - j]?.getD ⟨0, by constructor <;> omega⟩)

/-- below block n₀ but for block g nothing turns -/
def KeepBut (n₀ g : Nat) (A B : World) : Prop := ∀ k, k < n₀ → k ≠ g → B.heap[k]? = A.heap[k]?
theorem KeepBut.refl (n₀ g : Nat) (A : World) : KeepBut n₀ g A A := fun _ _ _ => rfl
theorem KeepBut.trans {n₀ g : Nat} {A B C : World} (h : KeepBut n₀ g A B) (k : KeepBut n₀ g B C) : KeepBut n₀ g A C := fun j hj hn => (k j hj hn).trans (h j hj hn)
theorem KeepBut.cell {n₀ g : Nat} {A B : World} (h : KeepBut n₀ g A B) {p : Addr} (hp : p.block < n₀) (hg : p.block ≠ g) : B.cell? p = A.cell? p := World.cell?_of_block (h _ hp hg)
theorem KeepBut.reads {n₀ n₁ g size n : Nat} {A B : World} {a : Option Addr} {xs : List Value} (h : KeepBut n₀ g A B) (h0 : n₁ ≤ n₀) (hg : n₁ ≤ g) (hr : Reads A n₁ size a n xs) : Reads B n₁ size a n xs :=
  hr.keep fun p hp => h.cell (by omega) (by omega)
theorem KeepBut.setCell {n₀ g : Nat} {A B : World} (h : KeepBut n₀ g A B) {p : Addr} (hp : p.block = g) (u : Value) : KeepBut n₀ g A (B.setCell p u) :=
  fun k hk hn => (Below.heap_setCell B p u k (by omega)).trans (h k hk hn)
theorem KeepBut.drewN {n₀ g : Nat} {A B : World} (h : KeepBut n₀ g A B) (m : Nat) : KeepBut n₀ g A (B.drewN m) := h
theorem KeepBut.drew {n₀ g : Nat} {A B : World} (h : KeepBut n₀ g A B) : KeepBut n₀ g A B.drew := h
theorem KeepBut.put {n₀ g B : Nat} (hB : n₀ ≤ B) (W : World) (l : Nat) (o o' : Obj) (hl : B ≤ l) (_ : W.heap[l]? = some o) (_ : o.isCells = false) (_ : o.isWalk = false) : KeepBut n₀ g W (W.putObj l o') :=
  fun k hk hn => by
    have h : k ≠ l := by omega
    simp [World.putObj, Ne.symm h]

set_option maxRecDepth 100000 in
set_option maxHeartbeats 2000000 in
theorem backward1_in (F : Fence) (n : Nat) (hf : F.fn 101) (hro : F.round = none) (hn : 1 ≤ n) (l Bs n₀ n₁ g : Nat) (hn1 : n₁ ≤ n₀) (hg : n₁ ≤ g) (hBg : Bs ≠ g) (A : Option Addr) (cap : Nat) (zs : List Int64') (hreach : zs.length * 8 ≤ 140737488351232)
    (J Jx : List (Nat × Int64') → World → Prop)
    (hY : ∀ pre x W, J pre W → pre.length < zs.length → YieldAt F (n - 1) Tryd.prog l #[.int .i64 (x.1 : Int), .int .i64 x.2.1] W fun e W' =>
      (e = .returned (.bool true) ∧ J (pre ++ [x]) W' ∧ KeepBut n₀ g W W') ∨ (e = .returned (.bool false) ∧ Jx (pre ++ [x]) W'))
    (W : World) (hBs : W.cell? ⟨Bs, 0, none⟩ = some (.slice A zs.length cap)) (hBl : Bs < n₀) (hc : Reads W n₁ 1 A zs.length ((zs.map Subtype.val).map vi)) (h0 : J [] W) :
    CallsIn F n Tryd.prog 101 #[.func (.yield l) #[] #[], .pointer (some ⟨Bs, 0, none⟩)] W fun e W' => (∃ v, e = .returned v) ∧
      ((∃ ys, ys = upto (backF zs) zs.length ∧ J ys W') ∨ (∃ pre, (∃ k, k ≤ zs.length ∧ pre = upto (backF zs) k) ∧ Jx pre W')) := by
  refine callsIn_of_wp Tryd.func101 rfl hf ?_ hro
  simp only [Tryd.ntmps101, List.size_toArray, List.length_cons, List.length_nil, Nat.reduceAdd, Nat.reduceSub, Array.replicate_succ, Array.replicate_zero, List.push_toArray, List.append_toArray, List.nil_append, List.cons_append]
  obtain ⟨len, hlen⟩ : ∃ len, len = zs.length := ⟨_, rfl⟩
  rw [← hlen] at hreach hBs ⊢
  have HL := Lib.hid hlen
  clear hlen
  gi_wp2
  gi_loopw [3] (fun i wr => ∃ k : Nat, k ≤ len ∧ i = .int .i64 ((len : Int) - 1 - k) ∧ J (upto (backF zs) k) wr ∧ KeepBut n₀ g W wr)
    (fun i _ => (intOf i + 1).toNat)
  case atStart => exact ⟨0, Nat.zero_le _, by go_num, h0, KeepBut.refl _ _ _⟩
  case round =>
    obtain ⟨k, hk, rfl, hJs, hnx⟩ := hrel
    have hBs' : wr.cell? ⟨Bs, 0, none⟩ = some (.slice A len cap) := (hnx.cell (p := ⟨Bs, 0, none⟩) hBl hBg).trans hBs
    by_cases hlt : k < len
    · obtain ⟨fn, tmps, assign, body, hy, hR⟩ := hY _ (backF zs k) wr hJs (by rw [upto_length, ← HL.out]; exact hlt)
      have hkl : len - 1 - k < zs.length := by rw [← HL.out]; omega
      obtain ⟨ad, u, rfl, hab, hx, hcell⟩ := Reads.at_ (k := len - 1 - k) (hnx.reads hn1 hg hc) hkl
      rw [List.getElem?_map, List.getElem?_map, List.getElem?_eq_getElem hkl] at hx
      have hxe : backF zs k = (len - 1 - k, zs[len - 1 - k]) := by
        simp only [backF]
        rw [← HL.out, List.getElem?_eq_getElem hkl]; rfl
      rw [hxe] at hy hR
      have hu : u = vi (zs[len - 1 - k]).1 := by simpa using hx.symm
      rw [hu] at hcell
      have i1 : 0 ≤ (len : Int) - 1 - k := by omega
      have i2 : ((len : Int) - 1 - k).toNat = len - 1 - k := by omega
      have i3 : (((len - 1 - k : Nat)) : Int) = (len : Int) - 1 - k := by omega
      dsimp only at hy hR
      rw [i3] at hy
      have I2 := Lib.hid i2
      have HXE := Lib.hid hxe
      clear i2 i3 hxe hx hu
      gi_wp2
      refine hR.mono ?_
      rintro e W3 (⟨rfl, hJ3, hk3⟩ | ⟨rfl, hJx3⟩)
      · gi_wp2
        go_roundw
        case rel => exact ⟨k + 1, by omega, by go_num, by rw [upto_succ, HXE.out]; exact hJ3, hnx.trans hk3⟩
        case measure => simp [intOf]; omega
      · gi_wp2
        refine bodyPost_ret (results_none rfl _ _ _) rfl ?_
        exact ⟨⟨_, rfl⟩, .inr ⟨_, ⟨k + 1, by omega, by rw [upto_succ, HXE.out]⟩, hJx3⟩⟩
    · obtain rfl : k = len := by omega
      gi_wp2
      go_end0
      exact ⟨⟨_, rfl⟩, .inl ⟨_, rfl, hJs⟩⟩

set_option maxHeartbeats 1000000 in
theorem backward_any (a : Option Addr) (len cap : Nat) (w : World) :
    Calls Tryd.prog 79 #[.slice a len cap] w fun e w' => e = .returned (.func (.func 101) #[] #[.pointer (some ⟨w.heap.size, 0, none⟩)]) ∧ w' = w.alloc (.cells #[.slice a len cap] 23) := by
  go_enter Tryd.func79, Tryd.ntmps79
  go_wp2
  go_ret
  exact ⟨rfl, rfl⟩

/-- slices.Backward(s) hands back what stops -/
theorem backward_stops (F : Fence) (n : Nat) (hf : F.fn 101) (hro : F.round = none) (hn : 1 ≤ n) (Bs n₀ n₁ g : Nat) (hn1 : n₁ ≤ n₀) (hg : n₁ ≤ g) (hBg : Bs ≠ g) (A : Option Addr) (cap : Nat) (zs : List Int64') (hreach : zs.length * 8 ≤ 140737488351232) (w : World) (hBs : Bs < w.heap.size) (hBl : Bs < n₀) (hn₀ : n₀ ≤ w.heap.size)
    (hc : w.cell? ⟨Bs, 0, none⟩ = some (.slice A zs.length cap)) (hI : Reads w n₁ 1 A zs.length ((zs.map Subtype.val).map vi)) :
    SeqStopsK F n Tryd.prog 101 #[.pointer (some ⟨Bs, 0, none⟩)] (fun x : Nat × Int64' => #[Value.int .i64 (x.1 : Int), Value.int .i64 x.2.1]) (KeepBut n₀ g) (fun ys => ys = upto (backF zs) zs.length)
      (fun pre => ∃ k, k ≤ zs.length ∧ pre = upto (backF zs) k) zs.length w := fun l J Jx W hW _ _ hY h0 => by
  have hc' := (hW.cell (p := ⟨Bs, 0, none⟩) hBs).trans hc
  exact backward1_in F n hf hro hn l Bs n₀ n₁ g hn1 hg hBg A cap zs hreach J Jx hY W hc' hBl (hI.below (hW.mono (Nat.le_trans hn1 hn₀))) h0

/-- what Eval's sum is when some have come: 'pre' the pairs from the last place on -/
def evPre {p : Nat} [NeZero p] (pre : List (Nat × Int64')) (x : Fin p) : Fin p := pre.foldl (fun s y => s * x + el p y.2.1) 0
theorem evPre_snoc {p : Nat} [NeZero p] (pre : List (Nat × Int64')) (y : Nat × Int64') (x : Fin p) : evPre (pre ++ [y]) x = evPre pre x * x + el p y.2.1 := by simp [evPre]
theorem evPre_upto {p : Nat} [NeZero p] (zs : List Int64') (x : Fin p) (k : Nat) (hk : k ≤ zs.length) :
    evPre (upto (backF zs) k) x = ev ((zs.map (fun y => el p y.1)).drop (zs.length - k)) x := by
  induction k with
  | zero => rw [Nat.sub_zero, List.drop_eq_nil_of_le (by simp)]; rfl
  | succ k ih =>
    have hi : zs.length - (k + 1) < zs.length := by omega
    rw [upto_succ, evPre_snoc, ih (by omega), List.drop_eq_getElem_cons (i := zs.length - (k + 1)) (by simpa using hi)]
    rw [show zs.length - (k + 1) + 1 = zs.length - k from by omega]
    simp only [ev, List.getElem_map]
    have hb : (backF zs k).2 = zs[zs.length - (k + 1)] := by
      simp only [backF]
      rw [show zs.length - 1 - k = zs.length - (k + 1) from by omega, List.getElem?_eq_getElem hi]; rfl
    rw [hb]
    grind

/-- ints as the iterator hands them on -/
theorem exists_subtype (xs : List Int) (h : ∀ x ∈ xs, I64 x) : ∃ zs : List Int64', zs.map Subtype.val = xs := by
  induction xs with
  | nil => exact ⟨[], rfl⟩
  | cons x xs ih =>
    obtain ⟨zs, hz⟩ := ih (fun y hy => h y (by simp [hy]))
    exact ⟨⟨x, h x (by simp)⟩ :: zs, by simp [hz]⟩

set_option maxRecDepth 100000 in
set_option maxHeartbeats 4000000 in
theorem eval_sub (p : Nat) [NeZero p] (S b : Nat) (A : Option Addr) (cap : Nat) (zs : List Int64') (hreach : zs.length * 8 ≤ 140737488351232) (x : Int) (hx : I64 x) (w : World) (F : Fld w S b p) (hs : SL w A (zs.map Subtype.val)) :
    Calls Tryd.prog 46 #[.pointer (some ⟨b, 0, none⟩), .slice A zs.length cap, vi x] w fun e w' => e = .returned (vi (fv (ev (zs.map (fun y => el p y.1)) (el p x)))) ∧ Below w.heap.size w w' := by
  refine (callsIn_wide (n := 3)).1 ?_
  have hro : (Fence.wide).round = none := rfl
  have h1 : 1 ≤ 3 := by omega
  have hp2 := F.max
  refine callsIn_of_wp_marks Tryd.func46 rfl trivial ?_ hro
  simp only [Tryd.ntmps46, List.size_toArray, List.length_cons, List.length_nil, Nat.reduceAdd, Nat.reduceSub, Array.replicate_succ, Array.replicate_zero, List.push_toArray, List.append_toArray, List.nil_append, List.cons_append]
  gi_wp2_with (refine ⟨trivial, ?_⟩; gi_at_call 79; refine (callsIn_wide.2 (backward_any _ _ _ _)).mono ?_; rintro e w' ⟨rfl, rfl⟩)
  obtain ⟨W0, hW0⟩ : ∃ W0 : World, W0 = (((w.alloc (.cells #[.pointer (some ⟨b, 0, none⟩)] 24)).alloc (.cells #[vi x] 3)).alloc (.cells #[.int .i64 0] 3)).alloc (.cells #[.slice A zs.length cap] 23) := ⟨_, rfl⟩
  have hsz : W0.heap.size = w.heap.size + 4 := by rw [hW0]; simp
  have hbel : Below w.heap.size w W0 := by rw [hW0]; exact ((((Below.refl _ w).alloc (Nat.le_refl _) _).alloc (by simp) _).alloc (by simp; omega) _).alloc (by simp; omega) _
  have bF : Blk W0 w.heap.size 24 #[.pointer (some ⟨b, 0, none⟩)] := by rw [hW0]; exact (((Blk.new _ _ _).alloc _).alloc _).alloc _
  have bX : Blk W0 (w.heap.size + 1) 3 #[vi x] := by
    rw [hW0]; have := Blk.new (w.alloc (.cells #[.pointer (some ⟨b, 0, none⟩)] 24)) 3 #[vi x]
    rw [World.size_alloc] at this; exact (this.alloc _).alloc _
  have bS : Blk W0 (w.heap.size + 1 + 1) 3 #[.int .i64 0] := by
    rw [hW0]; have := Blk.new ((w.alloc (.cells #[.pointer (some ⟨b, 0, none⟩)] 24)).alloc (.cells #[vi x] 3)) 3 #[.int .i64 0]
    rw [World.size_alloc, World.size_alloc] at this; exact this.alloc _
  have bL : Blk W0 (w.heap.size + 1 + 1 + 1) 23 #[.slice A zs.length cap] := by
    rw [hW0]; have := Blk.new (((w.alloc (.cells #[.pointer (some ⟨b, 0, none⟩)] 24)).alloc (.cells #[vi x] 3)).alloc (.cells #[.int .i64 0] 3)) 23 #[.slice A zs.length cap]
    rw [World.size_alloc, World.size_alloc, World.size_alloc] at this; exact this
  rw [← hW0]
  clear hW0
  have hs' : Reads W0 w.heap.size 1 A zs.length ((zs.map Subtype.val).map vi) := by
    have := Reads.below hs hbel
    rwa [List.length_map] at this
  refine wpIn_rangeFunc_ownG hro h1 (gf := 101) (lb := #[.pointer (some ⟨w.heap.size + 1 + 1 + 1, 0, none⟩)]) rfl trivial (enters_of Tryd.func101 (by kernel_rfl) rfl)
    (backward_stops Fence.wide (3 - 1) trivial hro (by omega) (w.heap.size + 1 + 1 + 1) (w.heap.size + 4) w.heap.size (w.heap.size + 1 + 1) (by omega) (by omega) (by omega) A cap zs hreach W0 (by omega) (by omega) (by omega) (by rw [bL.cell]; rfl) hs')
    KeepBut.trans (KeepBut.put (by omega)) (Below.refl _ _) (fun _ => rfl)
    (fun pre W => (W.cell? ⟨w.heap.size + 1 + 1, 0, none⟩ = some (vi (fv (evPre pre (el p x)))) ∧ W.frozen? ⟨w.heap.size + 1 + 1, 0, none⟩ = false ∧ W.cell? ⟨w.heap.size, 0, none⟩ = some (.pointer (some ⟨b, 0, none⟩)) ∧ W.cell? ⟨w.heap.size + 1, 0, none⟩ = some (vi x)) ∧ Below w.heap.size w W)
    (fun _ _ _ => False)
    (OwnFrom.and (Own.from (fun s A B row hs hg hr => ⟨cell_kept hs.1 hg hr, (frozen_kept hs.1 hg hr).trans hs.2.1, cell_kept hs.2.2.1 hg hr, cell_kept hs.2.2.2 hg hr⟩) _) (ownFrom_below (Nat.le_refl _) (by omega)))
    (fun _ _ _ _ _ hs _ _ => hs)
    ⟨⟨by rw [bS.cell]; rfl, bS.frozen 0, by rw [bF.cell]; rfl, by rw [bX.cell]; rfl⟩, hbel⟩
    (fun y => { tmps := #[.pointer (some ⟨b, 0, none⟩), .slice A zs.length cap, vi x, .pointer (some ⟨w.heap.size, 0, none⟩), undef, .pointer (some ⟨w.heap.size + 1, 0, none⟩), .int .i64 0, .pointer (some ⟨w.heap.size + 1 + 1, 0, none⟩), undef, vi y.2.1, .slice A zs.length cap, .func (.func 101) #[] #[.pointer (some ⟨w.heap.size + 1 + 1 + 1, 0, none⟩)], vi y.1, vi y.2.1, undef, undef, undef, undef, undef, undef, undef, undef], defers := [] }) ?assign ?body ?done ?stop
  case assign =>
    intro l y W K hK
    gi_wp2
    exact hK
  case body =>
    rintro l pre y W ⟨⟨hc, hf, hcf, hcx⟩, hB⟩ _
    have hy := y.2.2
    have hc0 : W.cell? ⟨b, 0, none⟩ = some (vi p) := (hB.cell (p := ⟨b, 0, none⟩) (Nat.lt_of_lt_of_le F.lt F.le)).trans F.c0
    have i1 := i64_fv (evPre pre (el p x)) hp2
    have i2 := i64_fv (el p (fv (evPre pre (el p x))) * el p x) hp2
    have h1' : 1 ≤ 3 - 1 - 1 := by omega
    have hmx : Tryd.prog.follows .mixedOrders = true := by kernel_rfl
    gi_wp2
    refine wpIn_region_quiet_tail 7 hmx (by kernel_rfl) (by rintro ⟨_, _, h⟩; exact h) (by kernel_rfl) ?_
    simp only [List.take_succ_cons, List.take_zero, List.drop_succ_cons, List.drop_zero]
    repeat (quiet_step (first
      | (go_at_call 47; exact Calls.quiet_of (mul_any p hp2 b _ _ i1 hx _ (by exact hc0)))
      | (go_at_call 44; exact Calls.quiet_of (add_any p hp2 b _ _ i2 hy _ (by exact hc0)))))
    refine wpQuiet_nil ?_
    intro _ hw'
    obtain ⟨nq, hw''⟩ := hw'
    subst hw''
    go_wp2
    have hk1 : KeepsOthers W (W.drewN nq) := ⟨Nat.le_refl _, fun _ _ h _ => h⟩
    refine ⟨(hk1.trans (KeepsOthers.setCell _ _ _)).from _, ((KeepBut.refl _ (w.heap.size + 1 + 1) W).drewN nq).setCell (p := ⟨w.heap.size + 1 + 1, 0, none⟩) rfl _, ⟨?_, ?_, ?_, ?_⟩, (below_drewN hB nq).setCell (by simp; omega) _⟩
    · rw [evPre_snoc, el_fv, el_fv]
      exact World.cell?_setCell_same' _ _ _ (by rw [show (W.drewN nq).cell? ⟨w.heap.size + 1 + 1, 0, none⟩ = W.cell? ⟨w.heap.size + 1 + 1, 0, none⟩ from rfl, hc]; rfl)
    · rw [World.frozen?_setCell]; exact hf
    · rw [World.cell?_setCell_other _ _ _ _ (by simp)]; exact hcf
    · rw [World.cell?_setCell_other _ _ _ _ (by simp)]; exact hcx
  case done =>
    rintro D ys W hD rfl ⟨⟨hc, _⟩, hB⟩ hK
    gi_wp2
    refine ⟨by simp, .inl ⟨_, _, rfl, run_takeDeferred hK, ?_⟩⟩
    have he : evPre (upto (backF zs) zs.length) (el p x) = ev (zs.map (fun y => el p y.1)) (el p x) := by rw [evPre_upto zs _ _ (Nat.le_refl _), Nat.sub_self, List.drop_zero]
    rw [he]
    exact ⟨_, results_tmp rfl _ _ _, rfl, hB.trans (belowK_b (w := w) (Nat.le_refl _) W D _ _ (by omega) hK rfl rfl)⟩
  case stop =>
    rintro D c pre W _ _ h _
    exact h.elim

/-- poly.Eval: what a polynomial is at a point -/
theorem eval_any (p : Nat) [NeZero p] (S b : Nat) (A : Option Addr) (cap : Nat) (xs : List Int) (hxs : ∀ n ∈ xs, I64 n) (hreach : xs.length * 8 ≤ 140737488351232) (x : Int) (hx : I64 x) (w : World) (F : Fld w S b p) (hs : SL w A xs) :
    Calls Tryd.prog 46 #[.pointer (some ⟨b, 0, none⟩), .slice A xs.length cap, vi x] w fun e w' => e = .returned (vi (fv (ev (xs.map (el p)) (el p x)))) ∧ Below w.heap.size w w' := by
  obtain ⟨zs, rfl⟩ := exists_subtype xs hxs
  rw [List.length_map] at hreach ⊢
  have h := eval_sub p S b A cap zs hreach x hx w F hs
  rw [List.map_map]
  exact h
end Go.Proofs.YtgmkcmahbefcoaaDoor

/- The walk of poly.Fit: unlike points. -/
set_option linter.unusedVariables false
namespace Go.Proofs.YtgmkcmahbefcoaaDoor
open Go.RowKit Zp

/-- a list that meets the points is handed back, and no error -/
def MadeFitP {p : Nat} [NeZero p] (xs ys : List (Fin p)) (w : World) (e : Ending) (w' : World) : Prop :=
  ∃ (o : List (Fin p)) (v : Value), Fitted xs ys xs.length o ∧ e = .returned (.tuple #[v, .nilIface]) ∧ Own w' w.heap.size v (fvs o) ∧ Below w.heap.size w w'
theorem drop_end {p : Nat} [NeZero p] (V : List (Fin p)) (x : Fin p) (i : Nat) (h : V.length ≤ i) : ev (V.drop i) x = 0 := by rw [List.drop_eq_nil_of_le h]; rfl
theorem eval_nP (p : Nat) [NeZero p] (S b : Nat) (A : Option Addr) (n cap : Nat) (xs : List Int) (hml : xs.length = n) (hxs : ∀ n ∈ xs, I64 n) (hreach : n * 8 ≤ 140737488351232) (x : Int) (hx : I64 x) (w : World) (F : Fld w S b p) (hs : SL w A xs) :
    Calls Tryd.prog 46 #[.pointer (some ⟨b, 0, none⟩), .slice A n cap, vi x] w fun e w' => SaysW (vi (fv (ev (els p xs) (el p x)))) w e w' := by
  subst hml
  exact eval_any p S b A cap xs hxs hreach x hx w F hs

def PartRel {p : Nat} [NeZero p] (V : List (Fin p)) (X : Fin p) (na base gp : Nat) (W0 : World) (r t : Value) (wr : World) : Prop :=
  ∃ (j : Nat) (P : List (Fin p)), j ≤ na ∧ t = vi j ∧ r = vi (fv (ev (V.drop (j + 1)) X)) ∧ OwnC wr base gp na na P ∧ (∀ i, j ≤ i → co P i = ev (V.drop (i + 1)) X) ∧ Below W0.heap.size W0 wr
def SumRel {p : Nat} [NeZero p] (P S : List (Fin p)) (c : Fin p) (na base gs gp : Nat) (w2 : World) (t : Value) (wr : World) : Prop :=
  ∃ (j : Nat) (M : List (Fin p)), j ≤ na ∧ t = vi j ∧ OwnC wr base gs na na M ∧ OwnC wr base gp na na P ∧ FitIn P c j S M ∧ Below w2.heap.size w2 wr
set_option maxRecDepth 100000 in
set_option maxHeartbeats 8000000 in
theorem pfit_any (p S b : Nat) [NeZero p] (A B : Option Addr) (na ca cb : Nat) (xs ys : List Int) (hna : xs.length = na) (hnb : ys.length = na) (hxs : ∀ n ∈ xs, I64 n) (hys : ∀ n ∈ ys, I64 n) (hr : na * 8 ≤ 140737488351232) (hnd : (els p xs).Nodup) (w : World) (F : Fld w S b p) (hsx : SL w A xs) (hsy : SL w B ys) :
    Calls Tryd.prog 45 #[.pointer (some ⟨b, 0, none⟩), .slice A na ca, .slice B na cb] w fun e w' => MadeFitP (els p xs) (els p ys) w e w' := by
  have hp := F.prime
  have hp1 := F.two
  have hp2 := F.max
  have hc := F.c0
  have hbl : b < w.heap.size := block_lt_of_cell hc
  obtain ⟨l, hl⟩ : ∃ l, l = els p xs := ⟨_, rfl⟩
  obtain ⟨m, hm⟩ : ∃ m, m = els p ys := ⟨_, rfl⟩
  have hvan := fun W hcW hsW => pvan_any p hp hp1 hp2 b A na ca xs hna hxs hr W hcW hsW
  rw [← hl] at hnd hvan ⊢
  rw [← hm]
  have hll : l.length = na := by rw [hl]; simp [hna]
  have hlm : m.length = na := by rw [hm]; simp [hnb]
  have hco : ∀ k (hk : k < xs.length) (hk' : k < l.length), l[k] = el p xs[k] := fun k hk hk' => by simp [hl]
  have hcm : ∀ k (hk : k < ys.length), co m k = el p ys[k] := fun k hk => by rw [hm, co_of_lt (by simpa using hk)]; simp
  have HLL := Lib.hid hll
  have HLM := Lib.hid hlm
  have HCO := Lib.hid hco
  have HCM := Lib.hid hcm
  have HNA := Lib.hid hna
  have HNB := Lib.hid hnb
  have HND := Lib.hid hnd
  have HP := Lib.hid hp
  have HVAN := Lib.hid hvan
  have hs0 := SeenAt.made (p := p) w
  have hmm := @run_makeMap Tryd.prog
  have t0 : ((na : Int) != (na : Int)) = false := by simp
  clear hl hm hll hlm hna hnb hco hcm hnd hp hvan
  go_enter Tryd.func45, Tryd.ntmps45
  go_wp2
  go_loopw [30] (fun i wr => SeenRel l na w.heap.size w i wr) (fun i _ => na - (intOf i).toNat)
  case atStart => exact ⟨0, Nat.zero_le _, rfl, hs0, by simp, (Below.refl _ _).alloc (Nat.le_refl _) _⟩
  case round =>
    obtain ⟨k, hk, rfl, hsn, hnd, hb⟩ := hrel
    have hcr : wr.cell? ⟨b, 0, none⟩ = some (vi p) := (hb.cell (p := ⟨b, 0, none⟩) hbl).trans hc
    by_cases hkn : k < na
    · have hkl : k < l.length := by rw [HLL.out]; exact hkn
      have hkx : k < xs.length := by rw [HNA.out]; exact hkn
      obtain ⟨ad, rfl, hab, hcell⟩ := (hsx.below hb).at_ hkx
      have hI := hxs _ (List.getElem_mem hkx)
      have hst : l.take (k + 1) = l.take k ++ [el p xs[k]] := by rw [List.take_succ_eq_append_getElem hkl, HCO.out k hkx hkl]
      have hof := fun W hcW => of_el p hp2 b xs[k] hI W hcW
      generalize xs[k] = x at hcell hI hst hof
      generalize el p x = z at hst hof
      have hz : ¬ z ∈ l.take k := fun h => by
        have h1 : (l.take (k + 1)).Nodup := HND.out.sublist (List.take_sublist _ _)
        rw [hst, List.nodup_append] at h1
        exact h1.2.2 z h z (by simp) rfl
      have hlk := hsn.look hp2 z
      rw [decide_eq_false hz] at hlk
      obtain ⟨D, hD1, hD2⟩ := hsn
      have HPUT := Lib.hid (SeenAt.put hD1 hD2 z)
      have hnd2 := nodup_snoc hnd hz
      rw [← hst] at hnd2
      have HOF := Lib.hid hof
      have HST := Lib.hid hst
      have HND2 := Lib.hid hnd2
      have i1 : (0 : Int) ≤ (k : Int) := by omega
      have i2 : (k : Int) < na := by omega
      clear hof hst hnd hz hD2 hnd2
      go_wp2_with fail
      refine (HOF.out _ hcr).mono ?_
      rintro e w' ⟨rfl, rfl⟩
      go_wp2_with fail
      refine (HOF.out _ hcr).mono ?_
      rintro e w' ⟨rfl, rfl⟩
      go_wp2_with (at_mapUpdate; refine wpList_mapUpdate_own _ rfl _ _ _ 107 rfl 3 4 keyed_int Tryd.underlying107 _ w.heap.size k _ rfl hD1 (by simp only [maxLen]; omega) _ _ _ rfl rfl (Go.Maps.keyOf_int_mk Tryd.underlying3 (wf_fv z hp2)) _ [] (plainElem_bool Tryd.underlying4 true) ?_; intro w1 hD3 hg1)
      have hs2 : SeenAt w1 w.heap.size (k + 1) (l.take (k + 1)) := by rw [HST.out]; exact ⟨_, hD3, HPUT.out⟩
      have hb2 : Below w.heap.size w w1 := hb.grown hg1 hb.size (fun j hj => by injection hj with hj; omega)
      go_roundw
      case rel => exact ⟨k + 1, by omega, by go_num, hs2, HND2.out, hb2⟩
      case measure => simp [intOf]; omega
    · have ek : na = k := by omega
      subst ek
      clear hsn hnd hkn hk hs0
      have hsx1 := hsx.below hb
      have hsy1 := hsy.below hb
      have F1 := F.below hb F.le
      have hV := monic_van HP.out l
      have hpart := fun P i hi => PartOk.van (P := P) (i := i) HP.out (l := l) hi
      have hvl := HVAN.out _ hcr hsx1
      have hstep := fun (k : Nat) (S M P : List (Fin p)) (c : Fin p) (h : FitSum l m k S) (hk : k < l.length) (hP : PartOk (vanL l) (co l k) P) (hPl : P.length = l.length) (hc : c = co m k * Zp.inv (ev P (co l k))) (hm : FitIn P c P.length S M) => FitSum.step HP.out HND.out h hk hP hPl hc hm
      generalize vanL l = V at hV hvl hstep
      rw [HLL.out] at hV
      have HV := Lib.hid hV
      have HVL := Lib.hid hvl
      have HSTEP := Lib.hid hstep
      have hmk := make_ints na na (Nat.le_refl _) (by omega)
      clear hV hpart hvl hstep
      go_wp2_with fail
      refine (HVL.out).mono ?_
      rintro e w2 ⟨v2, rfl, hownV, hb2⟩
      have hlV : (fvs V).length = na + 1 := by rw [List.length_map]; exact HV.out.len
      obtain ⟨gV, cV, rfl, hgV, hgV'⟩ := hownV.block (by omega)
      obtain ⟨nv, hnv⟩ : ∃ nv, nv = na + 1 := ⟨_, rfl⟩
      rw [← hnv] at hlV
      rw [hlV] at hownV ⊢
      have hownVC : OwnC w2 wr.heap.size gV nv cV V := ⟨by rw [HV.out.len, hnv], hownV⟩
      have hbw2 := hb.trans (hb2.mono hb.size)
      have hsx2 := hsx1.below hb2
      have hsy2 := hsy1.below hb2
      have F2 := F1.below hb2 F1.le
      have hOE := OwnC.made (p := p) w2 w.heap.size na hbw2.size (by omega)
      have hba : Below w2.heap.size w2 (w2.alloc (.cells (zeros na) 3)) := (Below.refl _ _).alloc (Nat.le_refl _) _
      have HFS := Lib.hid (FitSum.start l m na HLL.out.symm)
      have HNV := Lib.hid hnv
      have HLV := Lib.hid hlV
      clear hownV hnv hlV F1 hsx1 hsy1 hcr hb2
      go_wp2
      go_loopw [53] (fun i wr => ∃ (k : Nat) (S' : List (Fin p)), k ≤ na ∧ i = vi k ∧ OwnC wr w.heap.size w2.heap.size na na S' ∧ FitSum l m k S' ∧ Below w2.heap.size w2 wr) (fun i _ => na - (intOf i).toNat)
      case atStart => exact ⟨0, _, Nat.zero_le _, rfl, hOE, HFS.out, hba⟩
      case round =>
        obtain ⟨k, S', hk, rfl, hoS, hfs, hbr⟩ := hrel
        obtain ⟨W0, hW0⟩ : ∃ W0 : World, W0 = wr := ⟨_, rfl⟩
        subst hW0
        have F0 := F2.below hbr F2.le
        have hc0 := F0.c0
        have hbl0 : b < W0.heap.size := block_lt_of_cell hc0
        have HFSK := Lib.hid hfs
        clear hfs
        by_cases hkn : k < na
        · have hkl : k < l.length := by rw [HLL.out]; exact hkn
          have hkx : k < xs.length := by rw [HNA.out]; exact hkn
          have hky : k < ys.length := by rw [HNB.out]; exact hkn
          obtain ⟨ad, rfl, hab, hcx⟩ := (hsx2.below hbr).at_ hkx
          obtain ⟨ad2, rfl, hab2, hcy⟩ := (hsy2.below hbr).at_ hky
          have hIx := hxs _ (List.getElem_mem hkx)
          have hIy := hys _ (List.getElem_mem hky)
          have hlx : co l k = el p xs[k] := by rw [co_of_lt hkl, HCO.out k hkx hkl]
          have hmy := HCM.out k hky
          generalize xs[k] = x at hcx hIx hlx
          generalize ys[k] = y at hcy hIy hmy
          obtain ⟨X, hX⟩ : ∃ X, X = el p x := ⟨_, rfl⟩
          have HXE := Lib.hid hX
          have HLX := Lib.hid (hlx.trans hX.symm)
          have HMY := Lib.hid hmy
          have hoV := hownVC.below hbr
          have hOP := OwnC.made (p := p) W0 w.heap.size na (Nat.le_trans hbw2.size hbr.size) (by omega)
          have hba0 : Below W0.heap.size W0 (W0.alloc (.cells (zeros na) 3)) := (Below.refl _ _).alloc (Nat.le_refl _) _
          have HP0 : Hid (∀ i, na ≤ i → co (List.replicate na (0 : Fin p)) i = ev (V.drop (i + 1)) X) := Lib.hid fun i hi => by rw [co_replicate, drop_end V X _ (by rw [HV.out.len]; omega)]
          have HR0 : Hid (vi 0 = vi (fv (ev (V.drop (na + 1)) X))) := Lib.hid (by rw [drop_end V X _ (by rw [HV.out.len]; omega), fv_zero])
          clear hlx hmy hX
          go_wp2
          go_loopw [16, 17] (fun r t wr => PartRel V X na w.heap.size W0.heap.size W0 r t wr) (fun _ t _ => (intOf t).toNat)
          case atStart => exact ⟨na, _, Nat.le_refl _, rfl, HR0.out, hOP, HP0.out, hba0⟩
          case round =>
            obtain ⟨j, P, hj, rfl, rfl, hoP, hPj, hb3⟩ := hrel
            have hcr : wr.cell? ⟨b, 0, none⟩ = some (vi p) := (hb3.cell (p := ⟨b, 0, none⟩) hbl0).trans hc0
            have HPJ := Lib.hid hPj
            clear hPj
            by_cases hj0 : j = 0
            · subst hj0
              obtain ⟨W3, hW3⟩ : ∃ W3 : World, W3 = wr := ⟨_, rfl⟩
              subst hW3
              have HPO := Lib.hid (show PartOk V X P from ⟨fun i => HPJ.out i (Nat.zero_le _)⟩)
              have hltY : (ad2.add k).block < W3.heap.size := by rw [block_of_add]; exact Nat.lt_of_lt_of_le hab2 hb3.size
              have hcy3 : W3.cell? (ad2.add k) = some (vi y) := (hb3.cell (p := ad2.add k) (by rw [block_of_add]; exact hab2)).trans hcy
              have F3 := F0.below hb3 F0.le
              have hbl3 : b < W3.heap.size := block_lt_of_cell hcr
              have hlP : (fvs P).length = na := by rw [List.length_map]; exact hoP.1
              have hsP := hoP.sl
              have hev := fun W FW hsW => eval_nP p S b (some ⟨W0.heap.size, 0, none⟩) na na (fvs P) hlP (i64_fvs _ hp2) hr x hIx W FW hsW
              simp only [els_fvs] at hev
              rw [← HXE.out] at hev
              obtain ⟨E, hE⟩ : ∃ E, E = ev P X := ⟨_, rfl⟩
              rw [← hE] at hev
              obtain ⟨C, hC⟩ : ∃ C, C = co m k * Zp.inv E := ⟨_, rfl⟩
              have hdiv := fun W hcW => div_any p hp1 hp2 b y (fv E) hIy (i64_fv _ hp2) W hcW
              rw [el_fv, ← HMY.out, ← hC] at hdiv
              have HEV := Lib.hid hev
              have HDIV := Lib.hid hdiv
              have HCE := Lib.hid (show C = co m k * Zp.inv (ev P (co l k)) by rw [hC, hE, HLX.out])
              clear hev hdiv hE hC hlP HPJ hj HP0 HR0
              go_wp2
              go_region_held3 (fun w' => w'.cell? (ad2.add k) = some (vi y)) (first | exact hcy3 | exact (hb5.cell hltY).trans hcy3) ((first | (go_at_call 46; refine (HEV.out _ (by first | exact F3 | exact F3.drewR | exact F3.drewN _) (by exact hsP)).mono ?_; rintro e w5 ⟨rfl, hb5⟩) | (go_at_call 77; refine (HDIV.out _ (by exact (hb5.cell (p := ⟨b, 0, none⟩) hbl3).trans hcr)).mono ?_; rintro e w' ⟨rfl, k5, rfl⟩)))
              have hb35 : Below W3.heap.size W3 (w5.drewN k5) := below_drewN ((show Below W3.heap.size W3 W3.drew from below_drewN (Below.refl _ _) 1).trans hb5) k5
              have hb05 := hb3.trans (hb35.mono hb3.size)
              have hoS5 := hoS.below hb05
              have hoP5 := hoP.below hb35
              have hbr5 := hbr.trans (hb05.mono hbr.size)
              have HSTEP2 := Lib.hid (fun M (hm : FitIn P C na S' M) => HSTEP.out k S' M P C HFSK.out hkl (by rw [HLX.out]; exact HPO.out) (by rw [hoP.1, HLL.out]) HCE.out (by rw [hoP.1]; exact hm))
              generalize w5.drewN k5 = W5 at hb35 hb05 hoS5 hoP5 hbr5 ⊢
              clear hb5 hb05 hcy3 hcr F3 hbl3 hsP HEV HDIV HCE HPO hltY
              go_wp2
              go_loopw [94] (fun t wr => SumRel P S' C na w.heap.size w2.heap.size W0.heap.size w2 t wr) (fun t _ => na - (intOf t).toNat)
              case atStart => exact ⟨0, S', Nat.zero_le _, rfl, hoS5, hoP5, FitIn.start _ _ _, hbr5⟩
              case round =>
                obtain ⟨j, M, hj, rfl, hoM, hoQ, hfi, hbq⟩ := hrel
                have HFI := Lib.hid hfi
                clear hfi
                by_cases hjn : j < na
                · have hcq : wr.cell? ⟨b, 0, none⟩ = some (vi p) := (F2.below hbq F2.le).c0
                  have hcP := hoQ.at_ j hjn
                  have hcM := hoM.at_ j hjn
                  have hfM := hoM.frozen j
                  obtain ⟨q, hq⟩ : ∃ q, q = co P j := ⟨_, rfl⟩
                  rw [← hq] at hcP
                  obtain ⟨o, ho⟩ : ∃ o, o = co M j := ⟨_, rfl⟩
                  rw [← ho] at hcM
                  obtain ⟨T, hT⟩ : ∃ T, T = C * q := ⟨_, rfl⟩
                  obtain ⟨U, hU⟩ : ∃ U, U = o + T := ⟨_, rfl⟩
                  have hst := HFI.out.step (by rw [hoS.1]; exact hjn)
                  rw [← ho, ← hq, ← hT, ← hU] at hst
                  have hmul := fun W hcW => mul_any p hp2 b (fv C) (fv q) (i64_fv _ hp2) (i64_fv _ hp2) W hcW
                  rw [el_fv, el_fv, ← hT] at hmul
                  have hadd := fun W hcW => add_any p hp2 b (fv o) (fv T) (i64_fv _ hp2) (i64_fv _ hp2) W hcW
                  rw [el_fv, el_fv, ← hU] at hadd
                  have HMUL := Lib.hid hmul
                  have HADD := Lib.hid hadd
                  have HST := Lib.hid hst
                  have j1 : (0 : Int) ≤ (j : Int) := by omega
                  have j2 : (j : Int) < na := by omega
                  have hmx : Tryd.prog.follows .mixedOrders = true := by kernel_rfl
                  clear hmul hadd hst hq ho hT hU
                  go_wp2
                  refine wp_region_quiet_tail 13 hmx (by kernel_rfl) ?_
                  simp only [List.take_succ_cons, List.take_zero, List.drop_succ_cons, List.drop_zero]
                  repeat (quiet_step (first | (go_at_call 47; exact Calls.quiet_of (HMUL.out _ (by exact hcq))) | (go_at_call 44; exact Calls.quiet_of (HADD.out _ (by exact hcq)))))
                  refine wpQuiet_nil ?_
                  intro _ hw'
                  obtain ⟨nq1, hw''⟩ := hw'
                  subst hw''
                  have hoM2 := (hoM.drewN nq1).store j U
                  have hoQ2 := (hoQ.drewN nq1).far (q := ⟨w2.heap.size, j, none⟩) (by show W0.heap.size ≠ w2.heap.size; have := hoS.lt.2; omega) (vi (fv U))
                  have hbq2 := (below_drewN hbq nq1).setCell (p := ⟨w2.heap.size, j, none⟩) (Nat.le_refl _) (vi (fv U))
                  go_wp2
                  go_roundw
                  case rel => exact ⟨j + 1, _, by omega, by go_num, hoM2, hoQ2, HST.out, hbq2⟩
                  case measure => simp [intOf]; omega
                · have ej : j = na := by omega
                  have hdn := HSTEP2.out M (by rw [← ej]; exact HFI.out)
                  have HDN := Lib.hid hdn
                  have HEJ := Lib.hid ej
                  clear hdn ej
                  have t1 : ¬ (j : Int) < na := by omega
                  go_wp2
                  go_roundw
                  case rel => exact ⟨k + 1, M, by omega, by go_num, hoM, HDN.out, hbq⟩
                  case measure => simp [intOf]; omega
            · have hjV := (hoV.below hb3).at_ j (by rw [HNV.out]; omega)
              have hcP := hoP.at_ (j - 1) (by omega)
              have hfP := hoP.frozen (j - 1)
              generalize co P (j - 1) = p0 at hcP
              obtain ⟨r, hr'⟩ : ∃ r, r = ev (V.drop (j + 1)) X := ⟨_, rfl⟩
              obtain ⟨vj, hvj⟩ : ∃ vj, vj = co V j := ⟨_, rfl⟩
              have hst : ev (V.drop j) X = vj + r * X := by rw [ev_drop, hvj, hr']; grind
              rw [← hr']
              rw [← hvj] at hjV
              obtain ⟨T, hT⟩ : ∃ T, T = r * X := ⟨_, rfl⟩
              obtain ⟨U, hU⟩ : ∃ U, U = vj + T := ⟨_, rfl⟩
              rw [← hT, ← hU] at hst
              have hmul := fun W hcW => mul_any p hp2 b (fv r) x (i64_fv _ hp2) hIx W hcW
              rw [el_fv, ← HXE.out, ← hT] at hmul
              have hadd := fun W hcW => add_any p hp2 b (fv vj) (fv T) (i64_fv _ hp2) (i64_fv _ hp2) W hcW
              rw [el_fv, el_fv, ← hU] at hadd
              have HMUL := Lib.hid hmul
              have HADD := Lib.hid hadd
              have HST := Lib.hid hst
              have j1 : (0 : Int) < (j : Int) := by omega
              have j2 : (0 : Int) ≤ (j : Int) := by omega
              have j3 : (j : Int) < nv := by have := HNV.out; omega
              have j4 : (0 : Int) ≤ (j : Int) - 1 := by omega
              have j5 : (j : Int) - 1 < na := by omega
              have j6 : ((j : Int) - 1).toNat = j - 1 := by omega
              have j7 : IntKind.i64.wrap ((j : Int) - 1) = (j : Int) - 1 := IntWalk.i64_in _ (by omega)
              clear hmul hadd hst hr' hvj hT hU
              go_wp2
              go_quiet ((first | (go_at_call 47; exact Calls.quiet_of (HMUL.out _ (by exact hcr))) | (go_at_call 44; exact Calls.quiet_of (HADD.out _ (by exact hcr)))))
              go_wp2
              go_roundw
              case rel => exact ⟨j - 1, P.set (j - 1) U, by omega, by congr 1; omega, by rw [show j - 1 + 1 = j by omega, HST.out], (hoP.drewN nq).store (j - 1) U, fun i hi => by
                rw [co_set' _ _ _ (by rw [hoP.1]; omega)]
                by_cases he : i = j - 1
                · rw [if_pos he, he, show j - 1 + 1 = j by omega, HST.out]
                · rw [if_neg he]; exact HPJ.out i (by omega), (below_drewN hb3 nq).setCell (p := ⟨W0.heap.size, j - 1, none⟩) (Nat.le_refl _) _⟩
              case measure => simp [intOf]; omega
        · have ek : na = k := by omega
          subst ek
          have hdn := (show FitSum l m l.length S' by rw [HLL.out]; exact HFSK.out).done
          have hlS : (fvs S').length = na := by rw [List.length_map]; exact hoS.1
          have ht := ptrim_n p hp2 b (some ⟨w2.heap.size, 0, none⟩) na na (fvs S') hlS (i64_fvs _ hp2) (by omega) (Nat.le_refl _) W0 hc0 hoS.sl
          rw [els_fvs] at ht
          generalize trimL S' = O at hdn ht
          have HDN := Lib.hid hdn
          have HT := Lib.hid ht
          have hb0 := hbw2.trans (hbr.mono hbw2.size)
          clear hdn ht hlS
          go_wp2_with fail
          refine (HT.out).mono ?_
          rintro e w4 ⟨v4, rfl, hown4, hb4⟩
          go_wp2
          go_ret2
          exact ⟨O, v4, HDN.out, rfl, hown4.more hb0.size, hb0.trans (hb4.mono hb0.size)⟩
end Go.Proofs.YtgmkcmahbefcoaaDoor

/- slices.IndexFunc and ContainsFunc over slices of ints, whatever the function asks of a slice's length. -/
set_option linter.unusedVariables false
namespace Go.Proofs.YtgmkcmahbefcoaaDoor
open Go.RowKit

/-- a function that only looks at a slice's length -/
def AsksLen (K : Nat) (cap : Array Value) (bad : Nat → Bool) (w : World) : Prop :=
  ∀ (A : Option Addr) (n c m : Nat), n < 9223372036854775808 → Calls Tryd.prog K (#[.slice A n c] ++ cap) (w.drewN m) fun e w' => e = .returned (.bool (bad n)) ∧ ∃ k, w' = (w.drewN m).drewN k
def FoundIs (ts : List (List Int)) (bad : Nat → Bool) (w : World) (e : Ending) (w' : World) : Prop :=
  (∃ r, e = .returned (vi r) ∧ ((0 ≤ r ∧ (ts.any fun t => bad t.length) = true) ∨ (r < 0 ∧ (ts.any fun t => bad t.length) = false))) ∧ ∃ k, w' = w.drewN k
set_option maxRecDepth 100000 in
set_option maxHeartbeats 1000000 in
theorem indexfG (K : Nat) (hK : ∀ (args : Array Value) (w : World), (callFunc K args).run Tryd.prog w = .ok (.enter K args) w) (cap : Array Value) (bad : Nat → Bool) (A : Option Addr) (d c : Nat) (ts : List (List Int)) (hd : ts.length = d) (hd2 : d ≤ 65536) (w : World) (hcl : AsksLen K cap bad w) (hs : TB w A ts) :
    Calls Tryd.prog 75 #[.slice A d c, .func (.func K) #[] cap] w fun e w' => FoundIs ts bad w e w' := by
  have HD := Lib.hid hd
  have HCL := Lib.hid hcl
  clear hd hcl
  go_enter Tryd.func75, Tryd.ntmps75
  go_wp2
  go_loopw [8] (fun i wr => ∃ k m : Nat, k ≤ d ∧ i = vi k ∧ (∀ j (hj : j < ts.length), j < k → bad ts[j].length = false) ∧ wr = w.drewN m) (fun i _ => d - (intOf i).toNat)
  case atStart => exact ⟨0, 0, Nat.zero_le _, rfl, fun j _ h => absurd h (by omega), rfl⟩
  case round =>
    obtain ⟨k, m, hk, rfl, hall, rfl⟩ := hrel
    have HALL := Lib.hid hall
    clear hall
    by_cases hkd : k < d
    · have hkt : k < ts.length := by rw [HD.out]; exact hkd
      obtain ⟨a0, A1, n1, c1, rfl, z1, hc1, hl1, hb1, z2, z3⟩ := hs k hkt
      have hc1' : (w.drewN m).cell? (a0.add k) = some (.slice A1 n1 c1) := hc1
      have hcall := HCL.out A1 n1 c1 m hb1
      have HL := Lib.hid hl1
      cases hq : bad n1
      · rw [hq] at hcall
        have HQ := Lib.hid hq
        have HC := Lib.hid hcall
        clear hl1 hq hcall z1 z2 z3
        go_wp2_with fail
        refine (HC.out).mono ?_
        rintro e w' ⟨rfl, m2, rfl⟩
        go_wp2
        go_roundw
        case rel =>
          refine ⟨k + 1, m + m2, by omega, by go_num, fun j hj hlt => ?_, rfl⟩
          by_cases e : j = k
          · subst e; rw [HL.out, HQ.out]
          · exact HALL.out j hj (by omega)
        case measure => simp [intOf]; omega
      · rw [hq] at hcall
        have HQ := Lib.hid hq
        have HC := Lib.hid hcall
        clear hl1 hq hcall z1 z2 z3
        go_wp2_with fail
        refine (HC.out).mono ?_
        rintro e w' ⟨rfl, m2, rfl⟩
        go_wp2
        go_ret
        exact ⟨⟨k, rfl, .inl ⟨by omega, List.any_eq_true.2 ⟨_, List.getElem_mem hkt, by rw [HL.out]; exact HQ.out⟩⟩⟩, m + m2, rfl⟩
    · obtain rfl : k = d := by omega
      go_wp2
      go_ret
      refine ⟨⟨-1, rfl, .inr ⟨by omega, ?_⟩⟩, _, rfl⟩
      rw [List.any_eq_false]
      intro t ht
      obtain ⟨j, hj, rfl⟩ := List.getElem_of_mem ht
      rw [HALL.out j hj (by rw [← HD.out]; exact hj)]
      simp
set_option maxRecDepth 100000 in
theorem containsfG (K : Nat) (hK : ∀ (args : Array Value) (w : World), (callFunc K args).run Tryd.prog w = .ok (.enter K args) w) (cap : Array Value) (bad : Nat → Bool) (A : Option Addr) (d c : Nat) (ts : List (List Int)) (hd : ts.length = d) (hd2 : d ≤ 65536) (w : World) (hcl : AsksLen K cap bad w) (hs : TB w A ts) (r : Bool) (hr : (ts.any fun t => bad t.length) = r) :
    Calls Tryd.prog 42 #[.slice A d c, .func (.func K) #[] cap] w fun e w' => e = .returned (.bool r) ∧ ∃ k, w' = w.drewN k := by
  have hix := Lib.hid (indexfG K hK cap bad A d c ts hd hd2 w hcl hs)
  have HR := Lib.hid hr
  clear hd hr hcl
  go_enter Tryd.func42, Tryd.ntmps42
  go_wp2_with fail
  refine (hix.out).mono ?_
  rintro e w' ⟨⟨q, rfl, hq⟩, m, rfl⟩
  rcases hq with ⟨h0, hq⟩ | ⟨h0, hq⟩
  · have hb : r = true := by rw [← HR.out]; exact hq
    clear hq
    go_wp2
    go_ret
    exact ⟨ret_bool (by first | (rw [hb]; done) | (rw [hb]; rfl) | (rw [hb]; simp; omega)), _, rfl⟩
  · have hb : r = false := by rw [← HR.out]; exact hq
    clear hq
    go_wp2
    go_ret
    exact ⟨ret_bool (by first | (rw [hb]; done) | (rw [hb]; rfl) | (rw [hb]; simp; omega)), _, rfl⟩
end Go.Proofs.YtgmkcmahbefcoaaDoor
