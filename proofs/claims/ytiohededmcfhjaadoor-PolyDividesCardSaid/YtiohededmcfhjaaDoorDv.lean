/- The walk of poly.Divide. -/
import Derived.Test.YtiohededmcfhjaaDoorEach
import Derived.Test.YtiohededmcfhjaaDoorPs
import Derived.Test.YtiohededmcfhjaaDoorIp
import Derived.Test.YtiohededmcfhjaaDoorSpread
set_option linter.unusedVariables false
namespace Go.Proofs.YtiohededmcfhjaaDoor
open Go.RowKit Zp

/-- one's own slice of elements, its block and its capacity known -/
def OwnC {p : Nat} (wr : World) (base g n c : Nat) (L : List (Fin p)) : Prop := L.length = n ∧ Own wr base (.slice (some ⟨g, 0, none⟩) n c) (fvs L)
section
variable {p : Nat} [NeZero p] {wr w' : World} {base g n c : Nat} {L : List (Fin p)}
theorem OwnC.at_ (h : OwnC wr base g n c L) (j : Nat) (hj : j < n) : wr.cell? ⟨g, j, none⟩ = some (vi (fv (co L j))) := by
  have hl := h.1
  have := Own.at_ h.2 (by simp [hl]) j (by simp [hl]; omega)
  rw [this, co_of_lt (by omega), List.getElem_map]
omit [NeZero p] in
theorem OwnC.frozen (h : OwnC wr base g n c L) (j : Nat) : wr.frozen? ⟨g, j, none⟩ = false := Own.frozen_ h.2 (by simp [h.1]) j
omit [NeZero p] in
theorem OwnC.store (h : OwnC wr base g n c L) (j : Nat) (x : Fin p) : OwnC (wr.setCell ⟨g, j, none⟩ (vi (fv x))) base g n c (L.set j x) := by
  refine ⟨by simp [h.1], ?_⟩
  have := Own.store h.2 (by simp [h.1]) j (fv x)
  rwa [← List.map_set] at this
omit [NeZero p] in
theorem OwnC.lt (h : OwnC wr base g n c L) : base ≤ g ∧ g < wr.heap.size := h.2.lt g rfl
omit [NeZero p] in
theorem OwnC.far (h : OwnC wr base g n c L) {q : Addr} (hq : g ≠ q.block) (u : Value) : OwnC (wr.setCell q u) base g n c L := ⟨h.1, h.2.far (fun e => hq (by injection e)) u⟩
omit [NeZero p] in
theorem OwnC.drewN (h : OwnC wr base g n c L) (k : Nat) : OwnC (wr.drewN k) base g n c L := h
omit [NeZero p] in
theorem OwnC.below (h : OwnC wr base g n c L) (hb : Below wr.heap.size wr w') : OwnC w' base g n c L := ⟨h.1, h.2.below hb⟩
omit [NeZero p] in
theorem OwnC.alloc (h : OwnC wr base g n c L) (o : Obj) : OwnC (wr.alloc o) base g n c L := ⟨h.1, h.2.alloc' o⟩
omit [NeZero p] in
theorem OwnC.sl (h : OwnC wr base g n c L) : SL wr (some ⟨g, 0, none⟩) (fvs L) := by
  obtain ⟨A, c, h1, h2⟩ := h.2.len
  injection h1 with h1 _ _
  rw [h1]; exact h2
theorem OwnC.made (w : World) (base n : Nat) (hb : base ≤ w.heap.size) (hc : n * 8 ≤ 281474976710656) : OwnC (p := p) (w.alloc (.cells (zeros n) 3)) base w.heap.size n n (List.replicate n 0) := OwnE.made w base n hb hc
end

theorem ptrim_n (p : Nat) [NeZero p] (hp2 : p ≤ 2147483647) (b : Nat) (A : Option Addr) (n cap : Nat) (xs : List Int) (hml : xs.length = n) (hxs : ∀ n ∈ xs, I64 n) (hreach : n * 8 ≤ 281474976710656) (hcap : n ≤ cap) (w : World) (hc : w.cell? ⟨b, 0, none⟩ = some (vi p)) (hs : SL w A xs) :
    Calls Tryd.prog 23 #[.pointer (some ⟨b, 0, none⟩), .slice A n cap] w fun e w' => Made (fvs (trimL (els p xs))) w e w' := by
  subst hml
  exact trim_any p hp2 b A cap xs hxs hreach hcap w hc hs

/-- quotient and rest are handed back -/
def MadeQR (Q R : List Int) (w : World) (e : Ending) (w' : World) : Prop := ∃ v1 v2, e = .returned (.tuple #[v1, v2, .nilIface]) ∧ Own w' w.heap.size v1 Q ∧ Own w' w.heap.size v2 R ∧ Below w.heap.size w w'
def MadeDiv {p : Nat} [NeZero p] (a b : List (Fin p)) (w : World) (e : Ending) (w' : World) : Prop := ∃ Q R, DivOk a b Q R ∧ MadeQR (fvs Q) (fvs R) w e w'
theorem divOk_trim {p : Nat} [NeZero p] {a b Q R : List (Fin p)} (h : DivOk (trimL a) (trimL b) Q R) : DivOk a b Q R := ⟨h.tq, h.tr, by have := h.lt; rwa [trimL_trim] at this, by have := h.eq; rwa [ofL_trim, ofL_trim] at this⟩

abbrev NoDivE : Ending := .returned (.tuple #[.slice none 0 0, .slice none 0 0, .iface 48 (.int .i64 3)])
theorem pdiv_zero (p : Nat) [NeZero p] (hp2 : p ≤ 2147483647) (b : Nat) (A B : Option Addr) (na ca nb cb : Nat) (ys : List Int) (hnb : ys.length = nb) (hys : ∀ n ∈ ys, I64 n) (hry : nb * 8 ≤ 281474976710656) (hcy : nb ≤ cb)
    (hz : trimL (els p ys) = []) (w : World) (hc : w.cell? ⟨b, 0, none⟩ = some (vi p)) (hsy : SL w B ys) :
    Calls Tryd.prog 7 #[.pointer (some ⟨b, 0, none⟩), .slice A na ca, .slice B nb cb] w fun e w' => e = NoDivE ∧ Below w.heap.size w w' := by
  have HT := Lib.hid (ptrim_n p hp2 b B nb cb ys hnb hys hry hcy w hc hsy)
  have HZ := Lib.hid hz
  clear hz hnb
  go_enter Tryd.func7, Tryd.ntmps7
  go_wp2_with fail
  refine (HT.out).mono ?_
  rintro e w1 ⟨v, rfl, hown, hb1⟩
  rw [HZ.out] at hown
  obtain ⟨A1, n1, c1, rfl, hl1, _⟩ := hown.shapeN
  have h0 : n1 = 0 := by rw [← hl1]; rfl
  subst h0
  clear hl1 hown
  go_wp2
  go_ret3
  exact ⟨rfl, hb1⟩

/-- a counter that falls: j more rounds -/
def IdxAt (j : Nat) (i : Value) : Prop := (j = 0 ∧ i = vi (-1)) ∨ ∃ m : Nat, j = m + 1 ∧ i = vi m
theorem idxAt (j : Nat) (x : Int) (h : x = (j : Int) - 1) : IdxAt j (vi x) := by
  subst h
  cases j with
  | zero => exact .inl ⟨rfl, rfl⟩
  | succ m => exact .inr ⟨m, rfl, by congr 1; omega⟩
/-- what the program's division knows at the head of its loop -/
def DivRel {p : Nat} [NeZero p] (al bl : List (Fin p)) (last nq na c1 g1 gq : Nat) (w1 : World) (i : Value) (wr : World) : Prop :=
  ∃ (j : Nat) (Q R : List (Fin p)), j ≤ nq ∧ IdxAt j i ∧ OwnC wr w1.heap.size gq nq nq Q ∧ OwnC wr w1.heap.size g1 na c1 R ∧ Divs al bl last j Q R ∧ Below w1.heap.size w1 wr
def DivIn {p : Nat} [NeZero p] (bl : List (Fin p)) (c : Fin p) (m nb nq na c1 g1 gq : Nat) (Q R : List (Fin p)) (w1 : World) (t : Value) (wr : World) : Prop :=
  ∃ (k : Nat) (M : List (Fin p)), k ≤ nb ∧ t = vi k ∧ OwnC wr w1.heap.size gq nq nq Q ∧ OwnC wr w1.heap.size g1 na c1 M ∧ Dived bl c m k R M ∧ Below w1.heap.size w1 wr
theorem divs_start {p : Nat} [NeZero p] (al bl : List (Fin p)) (last nq na : Nat) (hal : al.length = na) (h : na ≤ nq + last) : Divs al bl last nq (List.replicate nq 0) al :=
  ⟨fun i _ => co_replicate _ _, fun i hi => co_of_ge (by omega), fun i => by rw [co_mulL_zero_left (fun i => co_replicate _ _)]; grind⟩

set_option maxRecDepth 100000 in
set_option maxHeartbeats 4000000 in
theorem pdiv_any (p : Nat) [NeZero p] (hp : IsPrime p) (hp1 : 2 ≤ p) (hp2 : p ≤ 2147483647) (b : Nat) (A B : Option Addr) (na0 ca nb0 cb : Nat) (xs ys : List Int) (hna : xs.length = na0) (hnb : ys.length = nb0) (hxs : ∀ n ∈ xs, I64 n) (hys : ∀ n ∈ ys, I64 n)
    (hrx : na0 * 8 ≤ 140737488351232) (hry : nb0 * 8 ≤ 140737488351232) (hcx : na0 ≤ ca) (hcy : nb0 ≤ cb) (hnz : trimL (els p ys) ≠ []) (w : World) (hc : w.cell? ⟨b, 0, none⟩ = some (vi p)) (hsx : SL w A xs) (hsy : SL w B ys) :
    Calls Tryd.prog 7 #[.pointer (some ⟨b, 0, none⟩), .slice A na0 ca, .slice B nb0 cb] w fun e w' => MadeDiv (els p xs) (els p ys) w e w' := by
  have hbl : b < w.heap.size := block_lt_of_cell hc
  have hT1 := ptrim_n p hp2 b B nb0 cb ys hnb hys (by omega) hcy w hc hsy
  have hT2 := fun W hcW hsW => ptrim_n p hp2 b A na0 ca xs hna hxs (by omega) hcx W hcW hsW
  have hdiv := fun Q R (h : DivOk (trimL (els p xs)) (trimL (els p ys)) Q R) => divOk_trim h
  have htb := trimL_trim (els p ys)
  have hlb : (trimL (els p ys)).length ≤ nb0 := by rw [← hnb]; have := trimL_length_le (els p ys); simpa using this
  have hla : (trimL (els p xs)).length ≤ na0 := by rw [← hna]; have := trimL_length_le (els p xs); simpa using this
  have hpos : 0 < (trimL (els p ys)).length := List.length_pos_iff.2 hnz
  have htop : co (trimL (els p ys)) ((trimL (els p ys)).length - 1) ≠ 0 := by have := top_ne hpos; rwa [co_trim]
  generalize trimL (els p ys) = bl at hT1 hdiv htb hlb hpos htop
  generalize trimL (els p xs) = al at hT2 hdiv hla
  obtain ⟨last, hlast⟩ : ∃ last, bl.length = last + 1 := ⟨bl.length - 1, by omega⟩
  obtain ⟨na, hal⟩ : ∃ na, al.length = na := ⟨_, rfl⟩
  rw [hlast, Nat.add_sub_cancel] at htop
  rw [hlast] at hlb
  rw [hal] at hla
  obtain ⟨Iv, hIv⟩ : ∃ Iv, Iv = Zp.inv (co bl last) := ⟨_, rfl⟩
  have hI1 : Iv * co bl last = 1 := by rw [hIv]; exact inv_mul' hp htop
  have hinv := fun W hcW => inv_any p hp1 hp2 b (fv (co bl last)) (i64_fv _ hp2) W hcW
  rw [el_fv, ← hIv] at hinv
  have HT1 := Lib.hid hT1
  have HT2 := Lib.hid hT2
  have HDIV := Lib.hid hdiv
  have HTB := Lib.hid htb
  have HLAST := Lib.hid hlast
  have HAL := Lib.hid hal
  have HI1 := Lib.hid hI1
  have HINV := Lib.hid hinv
  clear hT1 hT2 hdiv htb hlast hal hI1 hinv hIv htop hpos hnz hna hnb
  go_enter Tryd.func7, Tryd.ntmps7
  go_wp2_with fail
  refine (HT1.out).mono ?_
  rintro e w1 ⟨v1, rfl, hown1, hb1⟩
  have hl1' : (fvs bl).length = last + 1 := by rw [List.length_map]; exact HLAST.out
  obtain ⟨g2, c2, rfl, hg2, hg2'⟩ := hown1.block (by omega)
  have hcr1 := (hb1.cell (p := ⟨b, 0, none⟩) hbl).trans hc
  have hbl1 : b < w1.heap.size := block_lt_of_cell hcr1
  have hsx1 := hsx.below hb1
  obtain ⟨nb, hnb⟩ : ∃ nb, nb = last + 1 := ⟨_, rfl⟩
  rw [← hnb] at hl1'
  rw [hl1'] at hown1 ⊢
  have H1 := Lib.hid hl1'
  have t1 : ((nb : Int) == 0) = false := by rw [beq_eq_false_iff_ne]; omega
  clear hl1'
  go_wp2_with fail
  refine (HT2.out _ hcr1 hsx1).mono ?_
  rintro e w2 ⟨v2, rfl, hown2, hb2⟩
  have hl2' : (fvs al).length = na := by rw [List.length_map]; exact HAL.out
  have hcr2 := (hb2.cell (p := ⟨b, 0, none⟩) hbl1).trans hcr1
  have hb12 := hb1.trans (hb2.mono hb1.size)
  have hown1' := hown1.below hb2
  have hcl : w2.cell? ⟨g2, last, none⟩ = some (vi (fv (co bl last))) := by
    have := hown1'.at_ H1.out.symm last (by rw [H1.out]; omega)
    rw [this, co_of_lt (by rw [HLAST.out]; omega), List.getElem_map]
  have i1 : (0 : Int) ≤ (last : Int) := by omega
  have i2 : (last : Int) < nb := by omega
  have i3 : (nb : Int) - 1 = (last : Int) := by omega
  have HNB := Lib.hid hnb
  clear hnb
  by_cases hle : na ≤ last
  · -- no round at all
    obtain ⟨A2, n2, cc2, rfl, hl2, hcc2, hm2, hs2⟩ := hown2.shapeN
    have e2 : n2 = na := by rw [← hl2]; exact hl2'
    subst e2
    have H2 := Lib.hid hl2
    have hmk : ∀ w : World, (Instr.makeSlice 22 (.int .i64 0) (.int .i64 0)).run Tryd.prog w = .ok (.slice (some ⟨w.heap.size, 0, none⟩) 0 0) (w.alloc (.cells (zeros 0) 3)) := make_ints 0 0 (Nat.le_refl _) (by omega)
    have j1 : (n2 : Int) - last ≤ 0 := by omega
    have hdz := HDIV.out _ _ ((divs_start al bl last 0 n2 HAL.out (by omega)).done (by rw [HTB.out]; exact HLAST.out))
    have hba : Below w2.heap.size w2 (w2.alloc (.cells (zeros 0) 3)) := (Below.refl _ _).alloc (Nat.le_refl _) _
    have hq := OwnC.made (p := p) w2 w2.heap.size 0 (Nat.le_refl _) (by omega)
    have hcr3 := (hba.cell (p := ⟨b, 0, none⟩) (block_lt_of_cell hcr2)).trans hcr2
    have ht1 := fun W hcW hsW => ptrim_n p hp2 b (some ⟨w2.heap.size, 0, none⟩) 0 0 (fvs (List.replicate 0 (0 : Fin p))) (by simp) (i64_fvs _ hp2) (by omega) (Nat.le_refl _) W hcW hsW
    have ht2 := fun W hcW hsW => ptrim_n p hp2 b A2 n2 cc2 (fvs al) hl2 (i64_fvs _ hp2) (by omega) hcc2 W hcW hsW
    simp only [els_fvs] at ht1 ht2
    have hsq := hq.sl
    have hs3 := hs2.below hba
    have hb3 := hb12.trans (hba.mono hb12.size)
    generalize trimL (List.replicate 0 (0 : Fin p)) = Q at hdz ht1
    generalize trimL al = R at hdz ht2
    generalize fvs (List.replicate 0 (0 : Fin p)) = zq at hsq ht1
    have HDZ := Lib.hid hdz
    have HQ1 := Lib.hid ht1
    have HQ2 := Lib.hid ht2
    clear hdz ht1 ht2 hq hown1 hown1' hown2 hl2' hs2 hsx1 hsy hsx hl2
    go_wp2_with fail
    refine (HINV.out _ hcr2).mono ?_
    rintro e w' ⟨rfl, rfl⟩
    go_wp2
    go_loopw [11] (fun i wr => i = vi (-1) ∧ wr = w2.alloc (.cells (zeros 0) 3)) (fun i _ => 0)
    case atStart => exact ⟨rfl, rfl⟩
    case round =>
      obtain ⟨rfl, rfl⟩ := hrel
      go_wp2_with fail
      refine (HQ1.out _ hcr3 hsq).mono ?_
      rintro e w4 ⟨v4, rfl, hown4, hb4⟩
      have hs4 := hs3.below hb4
      have hcr4 := (hb4.cell (p := ⟨b, 0, none⟩) (block_lt_of_cell hcr3)).trans hcr3
      go_wp2_with fail
      refine (HQ2.out _ hcr4 hs4).mono ?_
      rintro e w5 ⟨v5, rfl, hown5, hb5⟩
      go_wp2
      go_ret3
      exact ⟨Q, R, HDZ.out, v4, v5, rfl, (hown4.below hb5).more hb3.size, hown5.more (hb3.trans (hb4.mono hb3.size)).size, (hb3.trans (hb4.mono hb3.size)).trans (hb5.mono (hb3.trans (hb4.mono hb3.size)).size)⟩
  · obtain ⟨nq, hnq⟩ : ∃ nq, nq + last = na := ⟨na - last, by omega⟩
    obtain ⟨g1, c1, rfl, hg1, hg1'⟩ := hown2.block (by rw [hl2']; omega)
    rw [hl2'] at hown2 ⊢
    have H2 := Lib.hid hl2'
    have hmk := make_ints nq nq (Nat.le_refl _) (by omega)
    have j1 : ¬ (na : Int) - last ≤ 0 := by omega
    have j2 : (na : Int) - last = (nq : Int) := by omega
    have HNQ := Lib.hid hnq
    have hown2c : OwnC w2 w1.heap.size g1 na c1 al := ⟨HAL.out, hown2⟩
    have hOE := OwnC.made (p := p) w2 w1.heap.size nq hb2.size (by omega)
    have hst := divs_start al bl last nq na HAL.out (by omega)
    have HST := Lib.hid hst
    have hb1a : Below w1.heap.size w1 (w2.alloc (.cells (zeros nq) 3)) := hb2.alloc hb2.size _
    have hcc1 : na ≤ c1 := by
      obtain ⟨A9, n9, c9, e9, _, h9, _⟩ := hown2.shapeN
      injection e9 with _ e9b e9c
      omega
    clear hl2' hown2 hst hle hnq
    go_wp2_with fail
    refine (HINV.out _ hcr2).mono ?_
    rintro e w' ⟨rfl, rfl⟩
    go_wp2
    go_loopw [11] (fun i wr => DivRel al bl last nq na c1 g1 w2.heap.size w1 i wr) (fun i _ => (intOf i + 1).toNat)
    case atStart => exact ⟨nq, _, al, Nat.le_refl _, idxAt _ _ rfl, hOE, hown2c.alloc _, HST.out, hb1a⟩
    case round =>
      obtain ⟨j, Q, R, hj, hi, hoq, hor, hdv, hb⟩ := hrel
      have hcr : wr.cell? ⟨b, 0, none⟩ = some (vi p) := (hb.cell (p := ⟨b, 0, none⟩) hbl1).trans hcr1
      have HDVS := Lib.hid hdv
      clear hdv
      rcases hi with ⟨rfl, rfl⟩ | ⟨m, rfl, rfl⟩
      · have hdz := HDIV.out _ _ (HDVS.out.done (by rw [HTB.out]; exact HLAST.out))
        have hlq : (fvs Q).length = nq := by rw [List.length_map]; exact hoq.1
        have hlr : (fvs R).length = na := by rw [List.length_map]; exact hor.1
        have hq1 := fun W hcW hsW => ptrim_n p hp2 b (some ⟨w2.heap.size, 0, none⟩) nq nq (fvs Q) hlq (i64_fvs _ hp2) (by omega) (Nat.le_refl _) W hcW hsW
        have hq2 := fun W hcW hsW => ptrim_n p hp2 b (some ⟨g1, 0, none⟩) na c1 (fvs R) hlr (i64_fvs _ hp2) (by omega) hcc1 W hcW hsW
        simp only [els_fvs] at hq1 hq2
        have hsq := hoq.sl
        have hsr := hor.sl
        generalize trimL Q = Q' at hdz hq1
        generalize trimL R = R' at hdz hq2
        have HDZ := Lib.hid hdz
        have HQ1 := Lib.hid hq1
        have HQ2 := Lib.hid hq2
        have hb0 := hb1.trans (hb.mono hb1.size)
        clear hdz hq1 hq2 hlq hlr
        go_wp2_with fail
        refine (HQ1.out _ hcr hsq).mono ?_
        rintro e w4 ⟨v4, rfl, hown4, hb4⟩
        have hs4 := hsr.below hb4
        have hcr4 := (hb4.cell (p := ⟨b, 0, none⟩) (block_lt_of_cell hcr)).trans hcr
        go_wp2_with fail
        refine (HQ2.out _ hcr4 hs4).mono ?_
        rintro e w5 ⟨v5, rfl, hown5, hb5⟩
        go_wp2
        go_ret3
        exact ⟨Q', R', HDZ.out, v4, v5, rfl, (hown4.below hb5).more hb0.size, hown5.more (hb0.trans (hb4.mono hb0.size)).size, (hb0.trans (hb4.mono hb0.size)).trans (hb5.mono (hb0.trans (hb4.mono hb0.size)).size)⟩
      · have hmn : m < nq := by omega
        have hml : m + last < na := by have := HNQ.out; omega
        have hcR := hor.at_ (m + last) hml
        have hfQ := hoq.frozen m
        have hcQ := hoq.at_ m hmn
        generalize co Q m = oq at hcQ
        obtain ⟨X, hX⟩ : ∃ X, X = co R (m + last) := ⟨_, rfl⟩
        rw [← hX] at hcR
        obtain ⟨C, hC⟩ : ∃ C, C = X * Iv := ⟨_, rfl⟩
        have hmul := fun W hcW => mul_any p hp2 b (fv X) (fv Iv) (i64_fv _ hp2) (i64_fv _ hp2) W hcW
        rw [el_fv, el_fv, ← hC] at hmul
        have HMUL := Lib.hid hmul
        have HC := Lib.hid (show C = co R (m + last) * Iv by rw [hC, hX])
        clear hX hC hmul
        have k1 : (0 : Int) ≤ (m : Int) := by omega
        have k2 : (m : Int) < nq := by omega
        have k3 : (0 : Int) ≤ (m : Int) + last := by omega
        have k4 : (m : Int) + last < na := by omega
        have k5 : ((m : Int) + last).toNat = m + last := by omega
        have k6 : IntKind.i64.wrap ((m : Int) + last) = (m : Int) + last := IntWalk.i64_in _ (by omega)
        go_wp2_with fail
        refine (HMUL.out _ hcr).mono ?_
        rintro e w' ⟨rfl, kk, rfl⟩
        have hoq1 := (hoq.drewN kk).store m C
        have hor1 := (hor.drewN kk).far (q := ⟨w2.heap.size, m, none⟩) (by show g1 ≠ w2.heap.size; omega) (vi (fv C))
        have hb1r := (below_drewN hb kk).setCell (p := ⟨w2.heap.size, m, none⟩) hb2.size (vi (fv C))
        clear k3 k4 k5 k6 hcR
        go_wp2
        go_loopw [60] (fun t wr => DivIn bl C m nb nq na c1 g1 w2.heap.size (Q.set m C) R w1 t wr) (fun t _ => nb - (intOf t).toNat)
        case atStart => exact ⟨0, R, Nat.zero_le _, rfl, hoq1, hor1, Dived.start _ _ _ _, hb1r⟩
        case round =>
          obtain ⟨k, M, hk, rfl, hoq', hor', hdd, hb'⟩ := hrel
          have HDD := Lib.hid hdd
          clear hdd
          by_cases hlk : k < nb
          · have hcr' : wr.cell? ⟨b, 0, none⟩ = some (vi p) := (hb'.cell (p := ⟨b, 0, none⟩) hbl1).trans hcr1
            have hmk' : m + k < na := by have := HNB.out; omega
            have hc2 : wr.cell? ⟨g2, k, none⟩ = some (vi (fv (co bl k))) := by
              have := (hown1.below hb').at_ H1.out.symm k (by rw [H1.out]; exact hlk)
              rw [this, co_of_lt (by rw [HLAST.out, ← HNB.out]; exact hlk), List.getElem_map]
            have hcR := hor'.at_ (m + k) hmk'
            have hfR := hor'.frozen (m + k)
            have hcQ := hoq'.at_ m hmn
            rw [co_set _ _ _ (by rw [hoq.1]; exact hmn), if_pos rfl] at hcQ
            obtain ⟨Y, hY⟩ : ∃ Y, Y = co bl k := ⟨_, rfl⟩
            rw [← hY] at hc2
            obtain ⟨o, ho⟩ : ∃ o, o = co M (m + k) := ⟨_, rfl⟩
            rw [← ho] at hcR
            obtain ⟨T, hT⟩ : ∃ T, T = C * Y := ⟨_, rfl⟩
            obtain ⟨U, hU⟩ : ∃ U, U = o - T := ⟨_, rfl⟩
            have hst := HDD.out.step (by rw [hor.1]; exact hmk')
            rw [← ho, ← hY, ← hT, ← hU] at hst
            have hmul := fun W hcW => mul_any p hp2 b (fv C) (fv Y) (i64_fv _ hp2) (i64_fv _ hp2) W hcW
            rw [el_fv, el_fv, ← hT] at hmul
            have hsub := fun W hcW => sub_any p hp2 b (fv o) (fv T) (i64_fv _ hp2) (i64_fv _ hp2) W hcW
            rw [el_fv, el_fv, ← hU] at hsub
            have HMUL := Lib.hid hmul
            have HSUB := Lib.hid hsub
            have HST := Lib.hid hst
            clear hmul hsub hst hY ho hT hU
            have i3 : (0 : Int) ≤ (k : Int) := by omega
            have i4 : (k : Int) < nb := by omega
            have i5 : (0 : Int) ≤ (m : Int) + k := by omega
            have i6 : (m : Int) + k < na := by omega
            have i7 : ((m : Int) + k).toNat = m + k := by omega
            have i8 : IntKind.i64.wrap ((m : Int) + k) = (m : Int) + k := IntWalk.i64_in _ (by omega)
            have hmx : Tryd.prog.follows .mixedOrders = true := by kernel_rfl
            go_wp2
            refine wp_region_quiet_tail 20 hmx (by kernel_rfl) ?_
            simp only [List.take_succ_cons, List.take_zero, List.drop_succ_cons, List.drop_zero]
            repeat (quiet_step (first | (go_at_call 25; exact Calls.quiet_of (HMUL.out _ (by exact hcr'))) | (go_at_call 26; exact quiet_eq (HSUB.out _ (by exact hcr')))))
            refine wpQuiet_nil ?_
            intro _ hw'
            obtain ⟨nq1, hw''⟩ := hw'
            subst hw''
            have hoq2 := (hoq'.drewN nq1).far (q := ⟨g1, m + k, none⟩) (by show w2.heap.size ≠ g1; omega) (vi (fv U))
            have hor2 := (hor'.drewN nq1).store (m + k) U
            have hb2r := (below_drewN hb' nq1).setCell (p := ⟨g1, m + k, none⟩) hg1 (vi (fv U))
            clear i5 i6 i7 i8
            go_wp2
            go_roundw
            case rel => exact ⟨k + 1, _, by omega, by go_num, hoq2, hor2, HST.out, hb2r⟩
            case measure => simp [intOf]; omega
          · obtain rfl : k = nb := by omega
            have hdn := HDVS.out.step HLAST.out HI1.out (by rw [hoq.1]; exact hmn) HC.out (by rw [HLAST.out, ← HNB.out]; exact HDD.out)
            have HDN := Lib.hid hdn
            clear hdn
            go_wp2
            go_roundw
            case rel => exact ⟨m, _, M, by omega, idxAt _ _ (by first | rfl | omega), hoq', hor', HDN.out, hb'⟩
            case measure => simp [intOf]
end Go.Proofs.YtiohededmcfhjaaDoor
