/- A bundle of texts: Gw16, Vn, Pf, Pg, Gw5. -/
import Derived.Test.YteceghbjjnknbaaGreatQ11
import Derived.Test.YteceghbjjnknbaaGreatQ03
import Derived.Test.YteceghbjjnknbaaGreatQ00
import Derived.Maps.OwnSet
import Derived.Test.YteceghbjjnknbaaGreatQ04
import Derived.Deep.RegionHeld3
import Derived.Test.YteceghbjjnknbaaGreatQ05
import Derived.Test.YteceghbjjnknbaaGreatQ07
set_option linter.unusedVariables false
set_option linter.unusedSimpArgs false
namespace Go.Proofs.YteceghbjjnknbaaGreat
open Go.RowKit Zp
def LayAt (w : World) (AR AQ : Option Addr) (m : Nat) (nt : Nat → Nat) (rd : Nat → List (List Int)) (ln : Nat → List Int) : Prop :=
  ∀ i, i < m → ∃ (ar aq : Addr) (A A' : Option Addr), AR = some ar ∧ AQ = some aq ∧ w.cell? (ar.add i) = some (.slice A (2 * nt i) (2 * nt i)) ∧ w.cell? (aq.add i) = some (.slice A' (nt i + 1) (nt i + 1)) ∧ TB w A (rd i) ∧ SL w A' (ln i)
theorem LayAt.below {w w' : World} {AR AQ : Option Addr} {m : Nat} {nt : Nat → Nat} {rd : Nat → List (List Int)} {ln : Nat → List Int} (h : LayAt w AR AQ m nt rd ln) (hb : Below w.heap.size w w') : LayAt w' AR AQ m nt rd ln := fun i hi => by
  obtain ⟨ar, aq, A, A', h1, h2, h3, h4, h5, h6⟩ := h i hi
  exact ⟨ar, aq, A, A', h1, h2, (hb.cell (block_lt_of_cell h3)).trans h3, (hb.cell (block_lt_of_cell h4)).trans h4, h5.below hb, h6.below hb⟩
section
variable (p kk v : Nat) [NeZero p] (inp : List Int) (Ls : List (List GateR))
def dB : List Int := digL p kk (2 :: (labG p (v : Int) Ls ++ fvs (lvE p inp Ls Ls.length)))
def zB : List (Fin p) := els p (drawsL p kk (dB p kk v inp Ls) (nvR Ls v Ls.length))
def dB2 : List Int := iterD p kk (dB p kk v inp Ls) (nvR Ls v Ls.length)
def ntT (t : Nat) : Nat := nvR Ls v (lvT Ls t)
def MakeIs (w : World) (e : Ending) (w' : World) : Prop :=
  ∃ (AR AQ : Option Addr), e = .returned (.tuple #[.agg #[.slice AR Ls.length Ls.length, .slice AQ Ls.length Ls.length], .nilIface]) ∧ LayAt w' AR AQ Ls.length (ntT v Ls) (rdH p kk v inp Ls (zB p kk v inp Ls) (dB2 p kk v inp Ls)) (lnH p kk v inp Ls (zB p kk v inp Ls) (dB2 p kk v inp Ls)) ∧ Below w.heap.size w w'
end
section
variable {w wa w3 wb w4 : World} {c o base t : Nat} {v1 v2 v1' : Value} {xs us : List Value} {nt : Nat → Nat} {rd : Nat → List (List Int)} {ln : Nat → List Int}
theorem OutS.ob0 (h : OutS w c o base v1 v2 t xs us nt rd ln) (hb : Below w.heap.size w wa) : wa.cell? ⟨o, 0, none⟩ = some v1 ∧ wa.cell? ⟨o, 1, none⟩ = some v2 := ⟨((h.below hb).blk.cell 0).trans rfl, ((h.below hb).blk.cell 1).trans rfl⟩
theorem OutS.ob1 (h : OutS w c o base v1 v2 t xs us nt rd ln) (hb : Below w.heap.size w wa) (p2 : wa.grownBy w3 v1.ownBlock) (hb' : Below w3.heap.size w3 wb) : wb.cell? ⟨o, 0, none⟩ = some v1 ∧ wb.cell? ⟨o, 1, none⟩ = some v2 := by
  have h2 := ((h.below hb).o1 p2).1
  have h3 := h2.below hb' h2.lt
  exact ⟨(h3.cell 0).trans rfl, (h3.cell 1).trans rfl⟩
theorem OutS.own2b (h : OutS w c o base v1 v2 t xs us nt rd ln) (hb : Below w.heap.size w wa) (p2 : wa.grownBy w3 v1.ownBlock) (hb' : Below w3.heap.size w3 wb) : wb.ownsRow base 25 1 v2 t us := ownsRow_keep ((h.below hb).o1 p2).2 fun g hg => hb'.block g (World.ownsRow.lt ((h.below hb).o1 p2).2 g hg).2
theorem OutS.ob2 (h : OutS w c o base v1 v2 t xs us nt rd ln) (hb : Below w.heap.size w wa) (p2 : wa.grownBy w3 v1.ownBlock) (hb' : Below w3.heap.size w3 wb) (q2 : wb.grownBy w4 v2.ownBlock) (u : Value) : w4.cell? ⟨o, 0, none⟩ = some v1 ∧ w4.frozen? ⟨o, 0, none⟩ = false ∧ (w4.setCell ⟨o, 0, none⟩ u).cell? ⟨o, 1, none⟩ = some v2 ∧ (w4.setCell ⟨o, 0, none⟩ u).frozen? ⟨o, 1, none⟩ = false := by
  have h1 := ((h.below hb).o1 p2).1
  have h2 := Blk.below h1 hb' h1.lt
  have h3 := row_far (h.own2b hb p2 hb') q2 h2 (by decide)
  have h4 := h3.set_ 0 u
  exact ⟨(h3.cell 0).trans rfl, h3.frozen 0, (h4.cell 1).trans rfl, h4.frozen 1⟩
theorem OutS.ob2c (h : OutS w c o base v1 v2 t xs us nt rd ln) (hb : Below w.heap.size w wa) (p2 : wa.grownBy w3 v1.ownBlock) (hb' : Below w3.heap.size w3 wb) (q2 : wb.grownBy w4 v2.ownBlock) : w4.cell? ⟨o, 0, none⟩ = some v1 ∧ w4.cell? ⟨o, 1, none⟩ = some v2 := by
  have h1 := ((h.below hb).o1 p2).1
  have h2 := Blk.below h1 hb' h1.lt
  have h3 := row_far (h.own2b hb p2 hb') q2 h2 (by decide)
  exact ⟨(h3.cell 0).trans rfl, (h3.cell 1).trans rfl⟩
theorem Chn.blkFar {w w' : World} {c s o : Nat} {D : List Int} {t : TypeId} {cs : Array Value} (h : Chn w c s D) (ho : Blk w o t cs) (hg : w.grownBy w' (some o)) (h1 : t ≠ 3) (h2 : t ≠ 66) (h3 : 95 ≠ t) : Chn w' c s D := by
  obtain ⟨g, cap, t', cs', q1, q2, q3, q4, q5, q6, q7, q8⟩ := h
  have f1 := Blk.grown q1 hg (by intro e; injection e with e; exact Blk.ne_ q1 ho h3 e)
  have f2 := q2.grown hg (by intro e; injection e with e; exact Blk.ne_ q2 ho (q3.ne h1 h2) e)
  refine ⟨g, cap, t', cs', f1, f2, q3, ?_, q5, q6, q7, q8⟩
  refine ⟨q4.1, fun hn => ?_⟩
  obtain ⟨ad, e', hb, hc⟩ := q4.2 hn
  injection e' with e'
  subst e'
  exact ⟨_, rfl, f2.lt, fun j u hu => (World.cell?_of_block (by rw [block_of_add]; exact (f2 : w'.heap[g]? = _).trans (q2 : w.heap[g]? = _).symm)).trans (hc j u hu)⟩
theorem OutS.past {s B : Nat} {w0 : World} {D : List Int} {u u' : Value} (h : OutS w c o base v1 v2 t xs us nt rd ln) (hC : Chn w c s D) (hoB : o < B) (hb0 : Below w0.heap.size w0 w) (hbase : w0.heap.size ≤ base) (ho0 : w0.heap.size ≤ o) (h1 : ∀ g, v1.ownBlock = some g → g < B) (h2 : ∀ g, v2.ownBlock = some g → g < B)
    (hb : Below w.heap.size w wa) (p2 : wa.grownBy w3 v1.ownBlock) (hb' : Below w3.heap.size w3 wb) (q2 : wb.grownBy w4 v2.ownBlock) :
    KeepUp B w ((w4.setCell ⟨o, 0, none⟩ u).setCell ⟨o, 1, none⟩ u') ∧ Chn ((w4.setCell ⟨o, 0, none⟩ u).setCell ⟨o, 1, none⟩ u') c s D ∧ Below w0.heap.size w0 ((w4.setCell ⟨o, 0, none⟩ u).setCell ⟨o, 1, none⟩ u') := by
  have ha := h.below hb
  have b3 := (ha.o1 p2).1
  have bb := b3.below hb' b3.lt
  have ob := h.own2b hb p2 hb'
  have b4 := row_far ob q2 bb (by decide)
  have g12 : w4.grownBy ((w4.setCell ⟨o, 0, none⟩ u).setCell ⟨o, 1, none⟩ u') (some o) := grownBy_trans blk_grown blk_grown
  have s1 : w.heap.size ≤ wa.heap.size := hb.size
  have s2 := p2.size
  have s3 := hb'.size
  have s4 := q2.size
  refine ⟨⟨Nat.le_trans s1 (Nat.le_trans s2 (Nat.le_trans s3 (Nat.le_trans s4 g12.size))), fun x hx hx2 => ?_⟩, ?_, ?_⟩
  · rw [g12.block x (by omega) (by intro e; injection e with e; omega), q2.block x (by omega) (fun e => by have := h2 x e.symm; omega), hb'.block x (by omega), p2.block x (by omega) (fun e => by have := h1 x e.symm; omega), hb.block x hx2]
  · exact (((hC.below hb).rowFar ha.own1 p2 (by decide) (by decide) (by decide)).below hb').rowFar ob q2 (by decide) (by decide) (by decide) |>.blkFar b4 g12 (by decide) (by decide) (by decide)
  · have k1 := hb0.trans (hb.mono hb0.size)
    have k2 := k1.grown p2 k1.size (fun g hg => Nat.le_trans hbase (World.ownsRow.lt ha.own1 g hg).1)
    have k3 := k2.trans (hb'.mono k2.size)
    have k4 := k3.grown q2 k3.size (fun g hg => Nat.le_trans hbase (World.ownsRow.lt ob g hg).1)
    exact k4.grown g12 k4.size (fun g hg => by injection hg with hg; omega)
theorem OutS.fin {r : Nat} {A1 A2 : Option Addr} {n1 c1 n2 c2 : Nat} {cs : Array Value} (h : OutS w c o base (.slice A1 n1 c1) (.slice A2 n2 c2) t xs us nt rd ln) (hr : Blk w r 41 cs) (hrc : r < c) (hs : w.heap.size ≤ w4.heap.size) (hk : ∀ x, x < w.heap.size → x ≠ o → x ≠ r → w4.heap[x]? = w.heap[x]?) : n1 = t ∧ n2 = t ∧ n1 ≤ c1 ∧ n2 ≤ c2 ∧ (A1 = none → c1 = 0) ∧ (A2 = none → c2 = 0) ∧ LayAt w4 A1 A2 t nt rd ln := by
  have keep : ∀ {e : TypeId} {v : Value} {n : Nat} {ys : List Value}, w.ownsRow base e 1 v n ys → 41 ≠ e → w4.ownsRow base e 1 v n ys := fun h' he => ownsRow_keep h' fun g hg => by
    obtain ⟨cs', hcs⟩ := row_blk h' hg
    exact hk g hcs.lt (fun e' => by subst e'; exact Blk.ne_ h.blk hcs he rfl) (fun e' => by subst e'; exact Blk.ne_ hr hcs he rfl)
  have o1 := keep h.own1 (by decide)
  have o2 := keep h.own2 (by decide)
  have sh : ∀ {e : TypeId} {A : Option Addr} {n m cap : Nat} {ys : List Value}, w4.ownsRow base e 1 (.slice A n cap) m ys → n = m ∧ n ≤ cap ∧ (A = none → cap = 0) := fun h' => by
    rcases h'.2 with ⟨e, h0⟩ | ⟨g, cap', cur, e, _, _, hc, _⟩
    · injection e with e1 e2 e3
      exact ⟨by omega, by omega, fun _ => by omega⟩
    · injection e with e1 e2 e3
      exact ⟨e2, by omega, fun hn => by rw [e1] at hn; cases hn⟩
  obtain ⟨a1, a2, a3⟩ := sh o1
  obtain ⟨b1, b2, b3⟩ := sh o2
  refine ⟨a1, b1, a2, b2, a3, b3, fun i hi => ?_⟩
  obtain ⟨A, A', B, E, q1, q2, q3, q4, qBE, q5, q6, q7, q8⟩ := h.cont i hi
  have hl := h.len
  subst a1 b1
  obtain ⟨ad, u, e1, _, e3, e4⟩ := Reads.at_ (k := i) (Reads.of_own o1) hi
  obtain ⟨ad2, u2, f1, _, f3, f4⟩ := Reads.at_ (k := i) (Reads.of_own o2) hi
  rw [q1] at e3
  rw [q2] at f3
  injection e3 with e3
  injection f3 with f3
  subst e3 f3
  have hW := q8 w4 (Nat.le_trans q5 hs) fun x hx hx2 => hk x (by omega) (by omega) (by omega)
  exact ⟨ad, ad2, A, A', e1, f1, e4, f4, hW.1, hW.2⟩
theorem OutS.new2 (h : OutS w c o base v1 v2 t xs us nt rd ln) (p2 : wa.grownBy w3 v1.ownBlock) {g : Nat} (hg : w.heap.size ≤ g) (hg2 : g < wa.heap.size) {l : List Value} (hc : ∀ j u, l[j]? = some u → wa.cell? ⟨g, j, none⟩ = some u) : ∀ j u, l[j]? = some u → w3.cell? ⟨g, j, none⟩ = some u := fun j u hj => by
  rw [← hc j u hj]
  exact World.cell?_of_block (p2.block g hg2 (fun e => by have := (World.ownsRow.lt h.own1 g e.symm).2; omega))
end
set_option maxRecDepth 100000 in
set_option maxHeartbeats 8000000 in
theorem make_any (p S b s kk zz v : Nat) [NeZero p] (oo : Nat → Nat → Fin p) (AL : Option Addr) (nL cL : Nat) (Ls : List (List GateR)) (hLn : Ls.length = nL) (hyes : CirR (v : Int) Ls) (A : Option Addr) (n c : Nat) (inp : List Int) (hin : inp.length = n) (hI : ∀ x ∈ inp, I64 x) (hne : n = 2 ^ v) (w : World) (F : Fld w S b p) (G : Spg w s b kk zz oo) (hLT : LT w AL Ls) (hs : SL w A inp) :
    Calls Tryz.prog 9 #[.pointer (some ⟨s, 0, none⟩), .agg #[vi (v : Int), .slice AL nL cL], .slice A n c] w (MakeIs p kk v inp Ls w) := by
  have hp2 := F.max
  have h8 := hyes.n8
  have h1 := hyes.n1
  have hL8 : nL ≤ 8 := by omega
  have hL1 : 1 ≤ nL := by omega
  obtain ⟨W0, hW0⟩ : ∃ W0, W0 = (w.alloc (.cells #[vi (v : Int), .slice AL nL cL] 24)).alloc (.cells #[.slice none 0 0, .slice none 0 0] 41) := ⟨_, rfl⟩
  have hb0 : Below w.heap.size w W0 := by rw [hW0]; exact ((Below.refl _ _).alloc (Nat.le_refl _) _).alloc (by simp) _
  have hQ : Blk W0 w.heap.size 24 #[vi (v : Int), .slice AL nL cL] := by rw [hW0]; exact (Blk.new _ _ _).alloc _
  have hR : Blk W0 (w.heap.size + 1) 41 #[.slice none 0 0, .slice none 0 0] := by
    rw [hW0]
    have h := Blk.new (w.alloc (.cells #[vi (v : Int), .slice AL nL cL] 24)) 41 #[.slice none 0 0, .slice none 0 0]
    rw [World.size_alloc] at h
    exact h
  have HW0 := Lib.hid hW0
  have HB0 := Lib.hid hb0
  have HQ := Lib.hid hQ
  have HR := Lib.hid hR
  have hbd : Below w.heap.size w W0.drew := below_drewN hb0 1
  have HNW := Lib.hid (newwalker_yes p S b v AL nL cL Ls hLn (by omega) hyes A n c inp hin hI hne W0.drew (F.below hbd F.le) (hLT.below hbd) (hs.below hbd))
  have HFD := Lib.hid (sfield_s s b kk zz oo W0.drew (G.below hbd (block_lt_of_cell G.c0)))
  have HF := Lib.hid F
  have HG := Lib.hid G
  have HLT := Lib.hid hLT
  have HYES := Lib.hid hyes
  have HLN := Lib.hid hLn
  have HSZ := Lib.hid (fun l hl => hyes.size (p := p) (inp := inp) (by rw [hin, hne]) l hl)
  have q0 := (hQ.cell 0).trans (show _ = some (vi (v : Int)) from rfl)
  have q1 := (hQ.cell 1).trans (show _ = some (.slice AL nL cL) from rfl)
  clear F G hLT hs hI hyes hb0 hQ hR hbd hin hne hW0 hLn
  go_enter Tryz.func9, Tryz.ntmps9
  go_upto_region 1 with (fail)
  rw [← HW0.out]
  refine wp_region_held_drew (S := fun W' => W'.cell? ⟨w.heap.size, 0, none⟩ = some (vi (v : Int)) ∧ W'.cell? ⟨w.heap.size, 1, none⟩ = some (.slice AL nL cL)) (by kernel_rfl) ⟨q0, q1⟩ (fun hHeld => ?_)
  refine tkH 0 ?_
  refine tkH 2 ?_
  refine tkH 3 ?_
  refine stH 1 (fun K hK => ?_)
  go_simp
  refine HFD.out.mono ?_
  rintro _ _ ⟨rfl, rfl⟩
  refine hK.out _ _ ⟨q0, q1⟩ (fun hHeld => ?_)
  clear hK K
  (try simp only [Act.put, List.setIfInBounds_toArray, List.set_cons_zero, List.set_cons_succ])
  refine stH 4 (fun K hK => ?_)
  go_simp
  refine HNW.out.mono ?_
  rintro _ w2 ⟨k, AV, nV, cV, us, rfl, hk, hB, hO, hRR, hb2⟩
  have hb02 : Below w.heap.size w w2 := (below_drewN HB0.out 1).trans (hb2.mono (below_drewN HB0.out 1).size)
  have hQ2 : Blk w2 w.heap.size 24 #[vi (v : Int), .slice AL nL cL] := (HQ.out.drew).below hb2 HQ.out.lt
  have r0 := (hQ2.cell 0).trans (show _ = some (vi (v : Int)) from rfl)
  have r1 := (hQ2.cell 1).trans (show _ = some (.slice AL nL cL) from rfl)
  refine hK.out _ _ ⟨r0, r1⟩ (fun hHeld => ?_)
  clear hK K
  (try simp only [Act.put, List.setIfInBounds_toArray, List.set_cons_zero, List.set_cons_succ])
  refine tkH 5 ?_
  refine tkH 6 ?_
  refine tkH 7 ?_
  refine tkH 8 ?_
  refine tkH 9 ?_
  refine wpAnyH_done (by kernel_rfl) ?_ _
  have htb := tb_own hO hRR (fun l hl x hx => by
    obtain ⟨j, hj, rfl⟩ := List.mem_iff_getElem.1 hl
    rw [lvR_at] at hx
    exact i64_fvs _ hp2 x hx)
  have hnV : nV = Ls.length + 1 := by
    obtain ⟨A', n', c', e', h1', h2'⟩ := ownR_shape hO
    injection e' with q1 q2 q3
    rw [q2, ← h1', hRR.1, lvR_len]
  have HWK := Lib.hid (show Wkr w2 k b v AL nL cL Ls AV nV cV (lvR p inp Ls (Ls.length + 1)) from ⟨hB, htb, HLT.out.below hb02⟩)
  have HB2 := Lib.hid hb02
  have HQ2 := Lib.hid hQ2
  have hRC2 : Blk w2 (w.heap.size + 1) 41 #[.slice none 0 0, .slice none 0 0] := (HR.out.drew).below hb2 HR.out.lt
  have HRC2 := Lib.hid hRC2
  have HK3 := Lib.hid ((hB.cell 3).trans (show _ = some (.slice AV nV cV) from rfl))
  clear hHeld hO hRR hb2 hb02 hQ2 htb hB HNW HFD HW0 HQ HR hRC2 q0 q1
  obtain ⟨av, A5, n5, c5, rfl, hav, hcv, hl5, hn5, hs5, -⟩ := HWK.out.tb nL (by rw [lvR_len, HLN.out]; omega)
  rw [lvR_at] at hl5 hs5
  have hn5e : n5 = 2 ^ nvR Ls v nL := by
    rw [← hl5]; simp only [fvs, List.length_map]; exact HSZ.out nL (by rw [HLN.out]; exact Nat.le_refl _)
  have hn64 : n5 ≤ 64 := by
    rw [hn5e]
    have := Nat.pow_le_pow_right (n := 2) (by omega) (HYES.out.small nL)
    omega
  have HBG := Lib.hid (fun (W : World) F G hLT hos => begin_any p S b s kk zz v oo AL nL cL Ls HLN.out HYES.out A5 n5 c5 (fvs (lvE p inp Ls nL)) hl5 (i64_fvs _ hp2) hn64 W F G hLT hos)
  have HS5 := Lib.hid hs5
  have HN5 := Lib.hid (And.intro hl5 hn5e)
  have HCV := Lib.hid (And.intro hav hcv)
  have k3 := HK3.out
  have i1 : (0 : Int) ≤ (nL : Int) := by omega
  have i2 : (nL : Int) < (nV : Int) := by rw [hnV, HLN.out]; omega
  have HNV := Lib.hid hnV
  clear hl5 hs5 hn5e hav hcv hnV
  go_upto_region 4 with (fail)
  refine wp_region_held_drew (S := fun W' => W'.cell? ⟨w.heap.size, 0, none⟩ = some (vi (v : Int)) ∧ W'.cell? ⟨w.heap.size, 1, none⟩ = some (.slice AL nL cL) ∧ W'.cell? ⟨k, 3, none⟩ = some (.slice (some av) nV cV) ∧ W'.cell? (av.add nL) = some (.slice A5 n5 c5)) (by kernel_rfl) ⟨r0, r1, k3, HCV.out.2⟩ (fun hHeld => ?_)
  refine tkH 0 ?_
  refine tkH 1 ?_
  refine tkH 2 ?_
  refine tkH 3 ?_
  refine tkH 4 ?_
  refine tkH 5 ?_
  refine tkH 6 ?_
  refine tkH 7 ?_
  refine tkH 8 ?_
  refine tkH 9 ?_
  refine tkH 10 ?_
  refine stH 11 (fun K hK => ?_)
  go_simp
  have hbd2 : Below w.heap.size w w2.drew := below_drewN HB2.out 1
  refine (HBG.out w2.drew (HF.out.below hbd2 HF.out.le) (HG.out.below hbd2 (block_lt_of_cell HG.out.c0)) (HLT.out.below hbd2) (HS5.out.drewN 1)).mono ?_
  rintro _ w4 ⟨ch, AZ, cz, rfl, hcw, hC4, hsz4, haz4, hb4⟩
  have hb24 : Below w2.heap.size w2 w4 := (below_drewN (Below.refl _ _) 1).trans hb4
  have hQ4 := HQ2.out.below hb24 HQ2.out.lt
  have s0 := (hQ4.cell 0).trans (show _ = some (vi (v : Int)) from rfl)
  have s1 := (hQ4.cell 1).trans (show _ = some (.slice AL nL cL) from rfl)
  have HW4 := Lib.hid (HWK.out.below hb24)
  have k34 := (HW4.out.blk.cell 3).trans (show _ = some (.slice (some av) nV cV) from rfl)
  have hcv4 := (hb24.cell HCV.out.1).trans HCV.out.2
  refine hK.out _ _ ⟨s0, s1, k34, hcv4⟩ (fun hHeld => ?_)
  clear hK K
  (try simp only [Act.put, List.setIfInBounds_toArray, List.set_cons_zero, List.set_cons_succ])
  refine tkH 12 ?_
  refine tkH 13 ?_
  refine tkH 14 ?_
  refine tkH 15 ?_
  refine tkH 16 ?_
  refine wpAnyH_done (by kernel_rfl) ?_ _
  obtain ⟨w5, hw5⟩ : ∃ w5, w5 = w4.alloc (.cells #[.slice none 0 0, .slice none 0 0] 41) := ⟨_, rfl⟩
  have hb5 : Below w4.heap.size w4 w5 := by rw [hw5]; exact (Below.refl _ _).alloc (Nat.le_refl _) _
  have hO5 : Blk w5 w4.heap.size 41 #[.slice none 0 0, .slice none 0 0] := by rw [hw5]; exact Blk.new _ _ _
  obtain ⟨o, ho⟩ : ∃ o, o = w4.heap.size := ⟨_, rfl⟩
  rw [← ho] at hO5
  have hco : ch < o := by rw [ho]; exact hC4.lt
  have hOS : OutS w5 ch o o (.slice none 0 0) (.slice none 0 0) 0 [] [] (ntT v Ls) (rdH p kk v inp Ls (zB p kk v inp Ls) (dB2 p kk v inp Ls)) (lnH p kk v inp Ls (zB p kk v inp Ls) (dB2 p kk v inp Ls)) :=
    ⟨hO5, World.ownsRow_nil _ _ _ _, World.ownsRow_nil _ _ _ _, Cont.nil _ _ _ _ _ _ _ _⟩
  have HC5 := Lib.hid (hC4.below hb5)
  have HSZ5 := Lib.hid (hsz4.below hb5)
  have HAZ := Lib.hid haz4
  have HOS := Lib.hid hOS
  have hb25 := hb24.trans (hb5.mono hb24.size)
  have HB25 := Lib.hid hb25
  have HCW : Hid (w2.heap.size ≤ ch) := Lib.hid hcw
  have HW5 := Lib.hid hw5
  have HOE := Lib.hid ho
  have hQ5 := HQ2.out.below hb25 HQ2.out.lt
  have u1 := (hQ5.cell 1).trans (show _ = some (.slice AL nL cL) from rfl)
  have iw : IntKind.i64.wrap ((nL : Int) - 1) = (nL : Int) - 1 := IntWalk.i64_in _ (by constructor <;> omega)
  clear hHeld hbd2 hC4 hsz4 haz4 hb4 hb24 hQ4 hb5 hO5 hOS hb25 hQ5 hw5 ho s0 s1 k34 hcv4 r0 r1 k3 hcw
  go_upto_region 6 with (fail)
  rw [← HW5.out, ← HOE.out]
  go_wp2
  obtain ⟨z0, hz0⟩ : ∃ z0, z0 = zB p kk v inp Ls := ⟨_, rfl⟩
  obtain ⟨D0, hD0⟩ : ∃ D0, D0 = dB2 p kk v inp Ls := ⟨_, rfl⟩
  rw [← hz0, ← hD0] at HOS
  have hdb : dB p kk v inp Ls = digL p kk (2 :: (labG p (v : Int) Ls ++ fvs (lvE p inp Ls nL))) := by rw [dB, HLN.out]
  have hC5 : Chn w5 ch s D0 := by rw [hD0, dB2, hdb]; exact HC5.out
  have hZ5 : SL w5 AZ (drawsL p kk (dB p kk v inp Ls) (nvR Ls v Ls.length)) := by rw [hdb]; exact HSZ5.out
  have hze : els p (drawsL p kk (dB p kk v inp Ls) (nvR Ls v Ls.length)) = z0 := by rw [hz0, zB]
  have hzl : (drawsL p kk (dB p kk v inp Ls) (nvR Ls v Ls.length)).length = nvR Ls v Ls.length := by simp [drawsL]
  have hzi : ∀ x ∈ drawsL p kk (dB p kk v inp Ls) (nvR Ls v Ls.length), I64 x := fun x hx => by
    obtain ⟨i, _, rfl⟩ := List.mem_map.1 hx
    obtain ⟨y, hy⟩ := digL_bounds (p := p) (k := kk) (4 :: iterD p kk (dB p kk v inp Ls) i) (j := 0) (by omega)
    have hy' : (iterD p kk (dB p kk v inp Ls) (i + 1)).getD 0 0 = fv y := hy
    rw [hy']
    exact i64_fv y hp2
  obtain ⟨zs0, hzs0⟩ : ∃ zs0, zs0 = drawsL p kk (dB p kk v inp Ls) (nvR Ls v Ls.length) := ⟨_, rfl⟩
  rw [← hzs0] at hZ5 hze hzl hzi
  have HI0 := Lib.hid (And.intro hC5 (And.intro hZ5 (And.intro hze (And.intro hzl hzi))))
  have HZD := Lib.hid (And.intro hz0 hD0)
  have HNT := Lib.hid (fun t (ht : t < Ls.length) => (show ntT v Ls t = nvR Ls v (Ls.length - (t + 1)) by rw [ntT, lvT, show Ls.length - 1 - t = Ls.length - (t + 1) by omega]))
  clear hdb hC5 hZ5 hze hzl hzi hzs0 hz0 hD0 HC5 HSZ5
  go_loopw [11, 13] (fun zv lv wr => ∃ (t : Nat) (BZ : Option Addr) (nz dz : Nat) (zs : List Int) (v1 v2 : Value) (xs us : List Value), t ≤ nL ∧ zv = .slice BZ nz dz ∧ lv = vi ((nL : Int) - 1 - (t : Int)) ∧ zs.length = nz ∧ nz = nvR Ls v (nL - t) ∧ els p zs = (lyH p kk v inp Ls z0 D0 t).1 ∧ (∀ x ∈ zs, I64 x) ∧ SL wr BZ zs ∧ (∀ ad, BZ = some ad → ch < ad.block) ∧ Chn wr ch s (lyH p kk v inp Ls z0 D0 t).2 ∧
      OutS wr ch o o v1 v2 t xs us (ntT v Ls) (rdH p kk v inp Ls z0 D0) (lnH p kk v inp Ls z0 D0) ∧ Below w2.heap.size w2 wr) (fun _ lv _ => (intOf lv + 1).toNat)
  case atStart => exact ⟨0, AZ, _, cz, zs0, _, _, _, _, Nat.zero_le _, rfl, by simp, HI0.out.2.2.2.1, by rw [HLN.out]; rfl, HI0.out.2.2.1, HI0.out.2.2.2.2, HI0.out.2.1, HAZ.out, HI0.out.1, HOS.out, HB25.out⟩
  case round =>
    obtain ⟨t, BZ, nz, dz, zs, v1, v2, xs, us, ht, rfl, rfl, hzl, hnz, hze, hzi, hzs, hza, hC, hOS, hb⟩ := hrel
    rename World => w6
    by_cases htn : t < nL
    · have k1 : (0 : Int) ≤ (nL : Int) - 1 - (t : Int) := by omega
      have k1' : (t : Int) ≤ (nL : Int) - 1 := by omega
      obtain ⟨li, hli⟩ : ∃ li, li = lvT Ls t := ⟨_, rfl⟩
      have hlt : lvT Ls t = nL - 1 - t := by rw [lvT, HLN.out]
      have eli : (nL : Int) - 1 - (t : Int) = (li : Int) := by rw [hli, hlt]; omega
      have hliL : li < Ls.length := by rw [HLN.out, hli, hlt]; omega
      have hlr : li < (lvR p inp Ls (Ls.length + 1)).length := by rw [lvR_len]; omega
      have hLI : LIt Ls t = Ls[li].map gI := by rw [LIt, ← hli, List.getD_eq_getElem?_getD, List.getElem?_eq_getElem hliL]; rfl
      have hnz6 : nz ≤ 64 := by rw [hnz]; have := HYES.out.small (nL - t); omega
      have hbch : ∀ W, w6.grownBy W (some ch) → Below w2.heap.size w2 W := fun W hg => hb.grown hg hb.size (fun j hj => by injection hj with hj; subst hj; exact HCW.out)
      have hdn := (wdown_any p S b s kk zz k v ch oo AL nL cL Ls HLN.out HYES.out (some av) nV cV (lvR p inp Ls (Ls.length + 1)) (by rw [lvR_len, HNV.out]) li hliL hlr (lvE p inp Ls li) (lvR_at p inp Ls _ li hlr) (nvR Ls v li) rfl (HSZ.out li (by omega)) BZ nz dz zs hzl hnz6 hzi (lyH p kk v inp Ls z0 D0 t).2 w6 hp2 (Nat.le_trans HF.out.le (Nat.le_trans HB2.out.size HCW.out)) (Nat.lt_of_lt_of_le (block_lt_of_cell HG.out.c0) (Nat.le_trans HB2.out.size HCW.out))
        (fun W hg => ⟨HF.out.below (HB2.out.trans ((hbch W hg).mono HB2.out.size)) HF.out.le, HG.out.below (HB2.out.trans ((hbch W hg).mono HB2.out.size)) (block_lt_of_cell HG.out.c0), HWK.out.below (hbch W hg), hzs.farO hg fun ad had _ e => by have := hza ad had; omega⟩) hC)
      have hnt : nvR Ls v li = ntT v Ls t := by rw [hli]; rfl
      have hfe : co (lvE p inp Ls li) = co (lvE p inp Ls (lvT Ls t)) := by rw [hli]
      rw [← hLI, hze, hnt, hfe] at hdn
      have HDN := Lib.hid hdn
      have HOS6 := Lib.hid hOS
      have HCL := Lib.hid (show ch < w6.heap.size from hC.lt)
      have HOL := Lib.hid (show o < w6.heap.size from hOS.blk.lt)
      have HV1 := Lib.hid (show ∀ g, v1.ownBlock = some g → g < w6.heap.size from fun g hg => (World.ownsRow.lt hOS.own1 g hg).2)
      have HV2 := Lib.hid (show ∀ g, v2.ownBlock = some g → g < w6.heap.size from fun g hg => (World.ownsRow.lt hOS.own2 g hg).2)
      have li8 : li ≤ 8 := by omega
      have iwl : IntKind.i64.wrap ((li : Int) - 1) = (li : Int) - 1 := IntWalk.i64_in _ (by constructor <;> omega)
      have HZL : Hid ((fvs (zN p kk (co (lvE p inp Ls (lvT Ls t))) (ntT v Ls t) (LIt Ls t) (lyH p kk v inp Ls z0 D0 t).1 (lyH p kk v inp Ls z0 D0 t).2)).length = ntT v Ls t ∧ ntT v Ls t = nvR Ls v (nL - (t + 1)) ∧ els p (fvs (zN p kk (co (lvE p inp Ls (lvT Ls t))) (ntT v Ls t) (LIt Ls t) (lyH p kk v inp Ls z0 D0 t).1 (lyH p kk v inp Ls z0 D0 t).2)) = (lyH p kk v inp Ls z0 D0 (t + 1)).1 ∧ ∀ x ∈ fvs (zN p kk (co (lvE p inp Ls (lvT Ls t))) (ntT v Ls t) (LIt Ls t) (lyH p kk v inp Ls z0 D0 t).1 (lyH p kk v inp Ls z0 D0 t).2), I64 x) := Lib.hid (by
        refine ⟨?_, ?_, ?_, i64_fvs _ hp2⟩
        · simp only [fvs, List.length_map]; exact zN_length _ _ _ _ _ _ _
        · rw [HNT.out t (by rw [HLN.out]; exact htn), HLN.out]
        · rw [els_fvs]; rfl)
      have HBC := Lib.hid hbch
      have HNL := Lib.hid (And.intro hlt eli)
      rw [eli]
      clear hdn hnt hfe hOS hbch hli hLI hze hlt eli hzl hnz hzi hzs hza hC hb hliL hlr hnz6
      go_wp2_with fail
      refine HDN.out.mono ?_
      obtain ⟨m, hm⟩ : ∃ m, m = ntT v Ls t := ⟨_, rfl⟩
      rw [← hm]
      rintro _ w7 ⟨AT, A6, AN, cN, rfl, hcN, hK7, haN, hC7, hg7⟩
      have hos7 := HOS6.out.chain hg7 hco hco
      have HM := Lib.hid hos7
      have HXL := Lib.hid hos7.len
      have HK7 := Lib.hid (And.intro hK7 (And.intro haN (And.intro hC7 hg7)))
      have HMM := Lib.hid hm
      have x0 := (hos7.blk.cell 0).trans (show _ = some v1 from rfl)
      have x1 := (hos7.blk.cell 1).trans (show _ = some v2 from rfl)
      have HBS := Lib.hid (show o ≤ w7.heap.size from Nat.le_of_lt hos7.blk.lt)
      have HKU : Hid (∀ W, KeepUp w6.heap.size w7 W → TB W AT (rdH p kk v inp Ls z0 D0 t) ∧ SL W A6 (lnH p kk v inp Ls z0 D0 t)) := Lib.hid fun W hW => by
        have h := hK7 W hW
        subst hm
        exact ⟨h.1, h.2.1⟩
      have HKG : Hid (∀ (wa w3 wb w4 : World) (u u' : Value), Below w7.heap.size w7 wa → wa.grownBy w3 v1.ownBlock → Below w3.heap.size w3 wb → wb.grownBy w4 v2.ownBlock → SL ((w4.setCell ⟨o, 0, none⟩ u).setCell ⟨o, 1, none⟩ u') AN (fvs (zN p kk (co (lvE p inp Ls (lvT Ls t))) (ntT v Ls t) (LIt Ls t) (lyH p kk v inp Ls z0 D0 t).1 (lyH p kk v inp Ls z0 D0 t).2)) ∧ Chn ((w4.setCell ⟨o, 0, none⟩ u).setCell ⟨o, 1, none⟩ u') ch s (lyH p kk v inp Ls z0 D0 (t + 1)).2 ∧ Below w2.heap.size w2 ((w4.setCell ⟨o, 0, none⟩ u).setCell ⟨o, 1, none⟩ u')) := Lib.hid fun wa w3 wb w4 u u' hZA p2 hZB q2 => by
        have h := hos7.past (u := u) (u' := u') hC7 (B := w6.heap.size) HOL.out (HBC.out w7 hg7) (Nat.le_trans HCW.out (Nat.le_of_lt hco)) (Nat.le_trans HCW.out (Nat.le_of_lt hco)) HV1.out HV2.out hZA p2 hZB q2
        have h3 := (hK7 _ h.1).2.2
        subst hm
        exact ⟨h3, h.2.1, h.2.2⟩
      clear hos7 hK7 haN hC7 hg7 hm
      have HZ1 := Lib.hid (bz1 w7 (.cells #[.slice AT (2 * m) (2 * m)] 36))
      have HZ2 := Lib.hid (bz2 w7 (.cells #[.slice AT (2 * m) (2 * m)] 36) (.cells #[.slice A6 (m + 1) (m + 1)] 25))
      have HZ3 := Lib.hid (bz2 w7 (.cells #[.slice A6 (m + 1) (m + 1)] 25) (.cells #[.slice AT (2 * m) (2 * m)] 36))
      have HZ4 := Lib.hid (bz1 w7 (.cells #[.slice A6 (m + 1) (m + 1)] 25))
      have HTB : Hid (t + 1 ≤ maxLen ∧ (t + 1) * 24 ≤ 140737488355328) := Lib.hid (by simp only [maxLen]; omega)
      have hN2 : Hid ((w7.drew.alloc (.cells #[.slice AT (2 * m) (2 * m)] 36)).heap.size = w7.heap.size + 1) := Lib.hid (by simp)
      have hN3 : Hid ((w7.drew.alloc (.cells #[.slice A6 (m + 1) (m + 1)] 25)).heap.size = w7.heap.size + 1) := Lib.hid (by simp)
      go_upto_region 10 with (fail)
      refine wp_region_M (C := fun W => W.cell? ⟨o, 0, none⟩ = some v1 ∧ W.cell? ⟨o, 1, none⟩ = some v2) 11 (by kernel_rfl) ?_
      have xx : w7.drew.cell? ⟨o, 0, none⟩ = some v1 ∧ w7.drew.cell? ⟨o, 1, none⟩ = some v2 := ⟨x0, x1⟩
      refine wpAnyM_takeT (i := 0) rfl rfl (by kernel_rfl) (by kernel_rfl) (by kernel_rfl) (fun _ _ _ h => h) (by decide) (Or.inl ⟨by rfl, by (intro w hSw; go_simp; try with_reducible rfl)⟩) (by first | exact fun _ => by assumption | exact fun h => absurd h (by decide)) ?_
      (try simp only [Act.put, List.setIfInBounds_toArray, List.set_cons_zero, List.set_cons_succ])
      refine wpAnyM_take (i := 1) rfl rfl (by kernel_rfl) (by kernel_rfl) (by kernel_rfl) (fun _ _ _ h => h) (by decide) (by kernel_rfl) (by kernel_rfl) (Or.inl ⟨by rfl, by (intro w hSw; (try dsimp only at hSw); go_simp; try with_reducible rfl)⟩) (by assumption) ?_
      (try simp only [Act.put, List.setIfInBounds_toArray, List.set_cons_zero, List.set_cons_succ])
      refine wpAnyM_takeT (i := 2) rfl rfl (by kernel_rfl) (by kernel_rfl) (by kernel_rfl) (fun _ _ _ h => h) (by decide) (Or.inl ⟨by rfl, by (intro w hSw; go_simp; try with_reducible rfl)⟩) (by first | exact fun _ => by assumption | exact fun h => absurd h (by decide)) ?_
      (try simp only [Act.put, List.setIfInBounds_toArray, List.set_cons_zero, List.set_cons_succ])
      refine wpAnyM_takeT (i := 5) rfl rfl (by kernel_rfl) (by kernel_rfl) (by kernel_rfl) (fun _ _ _ h => h) (by decide) (Or.inl ⟨by rfl, by (intro w hSw; go_simp; try with_reducible rfl)⟩) (by first | exact fun _ => by assumption | exact fun h => absurd h (by decide)) ?_
      (try simp only [Act.put, List.setIfInBounds_toArray, List.set_cons_zero, List.set_cons_succ])
      refine wpAnyM_take (i := 6) rfl rfl (by kernel_rfl) (by kernel_rfl) (by kernel_rfl) (fun _ _ _ h => h) (by decide) (by kernel_rfl) (by kernel_rfl) (Or.inl ⟨by rfl, by (intro w hSw; (try dsimp only at hSw); go_simp; try with_reducible rfl)⟩) (by assumption) ?_
      (try simp only [Act.put, List.setIfInBounds_toArray, List.set_cons_zero, List.set_cons_succ])
      refine wpAnyM_takeT (i := 7) rfl rfl (by kernel_rfl) (by kernel_rfl) (by kernel_rfl) (fun _ _ _ h => h) (by decide) (Or.inl ⟨by rfl, by (intro w hSw; go_simp; try with_reducible rfl)⟩) (by first | exact fun _ => by assumption | exact fun h => absurd h (by decide)) ?_
      (try simp only [Act.put, List.setIfInBounds_toArray, List.set_cons_zero, List.set_cons_succ])
      clear x0 x1
      refine wpAnyM_ready (rs := [3,8]) (by kernel_rfl) (by simp) ?_
      refine AllReadyM.cons rfl (fun K hK => ?_) (AllReadyM.cons rfl (fun K hK => ?_) AllReadyM.nil)
      · skip
        go_simp
        refine hK.out _ _ (fun _ => HM.out.ob0 HZ1.out) ?_
        clear hK K
        (try simp only [Act.put, List.setIfInBounds_toArray, List.set_cons_zero, List.set_cons_succ])
        refine wpAnyM_ready (rs := [4,8]) (by kernel_rfl) (by simp) ?_
        refine AllReadyM.cons rfl (fun K hK => ?_) (AllReadyM.cons rfl (fun K hK => ?_) AllReadyM.nil)
        · skip
          refine step_appSG 39 36 _ 1 24 Tryz.underlying39 info_tabG (by rfl) (by omega) (w7.drew.alloc (.cells #[.slice AT (2 * m) (2 * m)] 36)) w7.heap.size [.slice AT (2 * m) (2 * m)] (by rfl) (by simp [Value.oneCell']) (by rfl) _ _ (by rfl) o v1 t xs (by rfl) (by rfl) (newc1 w7.drew _ _ _ (by rfl)) (HM.out.below HZ1.out).own1 HTB.out.1 HTB.out.2 (Nat.le_trans HBS.out HZ1.out.size) ?_
          intro v1' w3 p1 p2 p3
          obtain ⟨A8, c8, rfl⟩ := row_form p1
          have hZA := HZ1.out
          have x3 := HM.out.ob1 hZA p2 (Below.refl _ w3)
          refine hK.out _ _ (fun _ => x3) ?_
          clear hK K
          (try simp only [Act.put, List.setIfInBounds_toArray, List.set_cons_zero, List.set_cons_succ])
          refine wpAnyM_takeT (i := 10) rfl rfl (by kernel_rfl) (by kernel_rfl) (by kernel_rfl) (fun _ _ _ h => h) (by decide) (Or.inl ⟨by rfl, by (intro w hSw; go_simp; try with_reducible rfl)⟩) (by first | exact fun _ => by assumption | exact fun h => absurd h (by decide)) ?_
          (try simp only [Act.put, List.setIfInBounds_toArray, List.set_cons_zero, List.set_cons_succ])
          refine wpAnyM_ready (rs := [8]) (by kernel_rfl) (by simp) ?_
          refine AllReadyM.cons rfl (fun K hK => ?_) AllReadyM.nil
          go_simp
          have hZB : Below w3.heap.size w3 (w3.alloc (.cells #[.slice A6 (m + 1) (m + 1)] 25)) := (Below.refl _ _).alloc (Nat.le_refl _) _
          refine hK.out _ _ (fun _ => HM.out.ob1 hZA p2 hZB) ?_
          clear hK K
          (try simp only [Act.put, List.setIfInBounds_toArray, List.set_cons_zero, List.set_cons_succ])
          refine wpAnyM_ready (rs := [9]) (by kernel_rfl) (by simp) ?_
          refine AllReadyM.cons rfl (fun K hK => ?_) AllReadyM.nil
          refine step_appSG 36 25 _ 1 24 Tryz.underlying36 info_ints (by rfl) (by omega) (w3.alloc (.cells #[.slice A6 (m + 1) (m + 1)] 25)) w3.heap.size [.slice A6 (m + 1) (m + 1)] (by rfl) (by simp [Value.oneCell']) (by rfl) _ _ (by rfl) o v2 t us (by rfl) (by rfl) (newc1 w3 _ _ _ (by rfl)) (HM.out.own2b hZA p2 hZB) HTB.out.1 HTB.out.2 (Nat.le_trans (Nat.le_trans HBS.out hZA.size) (Nat.le_trans p2.size hZB.size)) ?_
          intro v2' w4 q1 q2 q3
          obtain ⟨A9, c9, rfl⟩ := row_form q1
          obtain ⟨x4, x5, x6, x7⟩ := HM.out.ob2 hZA p2 hZB q2 (.slice A8 (t + 1) c8)
          have x8 : w4.cell? ⟨o, 0, none⟩ = some v1 ∧ w4.cell? ⟨o, 1, none⟩ = some v2 := HM.out.ob2c hZA p2 hZB q2
          refine hK.out _ _ (fun _ => x8) ?_
          clear hK K
          (try simp only [Act.put, List.setIfInBounds_toArray, List.set_cons_zero, List.set_cons_succ])
          refine wpAnyM_ready (rs := [11]) (by kernel_rfl) (by simp) ?_
          refine AllReadyM.cons rfl (fun K hK => ?_) AllReadyM.nil
          go_simp
          refine hK.out _ _ (fun h => absurd h (by decide)) ?_
          clear hK K
          (try simp only [Act.put, List.setIfInBounds_toArray, List.set_cons_zero, List.set_cons_succ])
          refine wpAnyM_takeT (i := 12) rfl rfl (by kernel_rfl) (by kernel_rfl) (by kernel_rfl) (fun _ _ _ h => h) (by decide) (Or.inl ⟨by rfl, by (intro w hSw; go_simp; try with_reducible rfl)⟩) (by first | exact fun _ => by assumption | exact fun h => absurd h (by decide)) ?_
          (try simp only [Act.put, List.setIfInBounds_toArray, List.set_cons_zero, List.set_cons_succ])
          refine wpAnyM_ready (rs := [13]) (by kernel_rfl) (by simp) ?_
          refine AllReadyM.cons rfl (fun K hK => ?_) AllReadyM.nil
          go_simp
          refine hK.out _ _ (fun h => absurd h (by decide)) ?_
          clear hK K
          (try simp only [Act.put, List.setIfInBounds_toArray, List.set_cons_zero, List.set_cons_succ])
          refine wpAnyM_done (by kernel_rfl) ?_ _
          have em := HMM.out
          subst em
          have hfin := HM.out.two (B := w6.heap.size) HCL.out HOL.out HK7.out.2.2.2.size HV1.out HV2.out HKU.out hZA p1 p2 p3 hZB q1 q2 q3
          have HFIN := Lib.hid hfin
          have hgrow := HKG.out _ _ _ _ (.slice A8 (t + 1) c8) (.slice A9 (t + 1) c9) hZA p2 hZB q2
          clear x4 x5 x6 x7 x8 x3 hfin
          have eli := HNL.out.2
          go_wp2
          go_roundw
          case rel => exact ⟨t + 1, AN, ntT v Ls t, cN, fvs (zN p kk (co (lvE p inp Ls (lvT Ls t))) (ntT v Ls t) (LIt Ls t) (lyH p kk v inp Ls z0 D0 t).1 (lyH p kk v inp Ls z0 D0 t).2), _, _, _, _, by omega, rfl, show vi ((li : Int) - 1) = _ from congrArg vi (by omega), HZL.out.1, HZL.out.2.1, HZL.out.2.2.1, HZL.out.2.2.2, hgrow.1, HK7.out.2.1, hgrow.2.1, HFIN.out, hgrow.2.2⟩
          case measure => simp only [intOf]; omega
        · skip
          go_simp
          refine hK.out _ _ (fun _ => HM.out.ob0 HZ2.out) ?_
          clear hK K
          (try simp only [Act.put, List.setIfInBounds_toArray, List.set_cons_zero, List.set_cons_succ])
          refine wpAnyM_ready (rs := [4]) (by kernel_rfl) (by simp) ?_
          refine AllReadyM.cons rfl (fun K hK => ?_) AllReadyM.nil
          refine step_appSG 39 36 _ 1 24 Tryz.underlying39 info_tabG (by rfl) (by omega) ((w7.drew.alloc (.cells #[.slice AT (2 * m) (2 * m)] 36)).alloc (.cells #[.slice A6 (m + 1) (m + 1)] 25)) w7.heap.size [.slice AT (2 * m) (2 * m)] (by rfl) (by simp [Value.oneCell']) (by rfl) _ _ (by rfl) o v1 t xs (by rfl) (by rfl) (newc2 w7.drew _ _ _ _ (by rfl)) (HM.out.below HZ2.out).own1 HTB.out.1 HTB.out.2 (Nat.le_trans HBS.out HZ2.out.size) ?_
          intro v1' w3 p1 p2 p3
          obtain ⟨A8, c8, rfl⟩ := row_form p1
          have hZA := HZ2.out
          have x3 := HM.out.ob1 hZA p2 (Below.refl _ w3)
          refine hK.out _ _ (fun _ => x3) ?_
          clear hK K
          (try simp only [Act.put, List.setIfInBounds_toArray, List.set_cons_zero, List.set_cons_succ])
          refine wpAnyM_takeT (i := 10) rfl rfl (by kernel_rfl) (by kernel_rfl) (by kernel_rfl) (fun _ _ _ h => h) (by decide) (Or.inl ⟨by rfl, by (intro w hSw; go_simp; try with_reducible rfl)⟩) (by first | exact fun _ => by assumption | exact fun h => absurd h (by decide)) ?_
          (try simp only [Act.put, List.setIfInBounds_toArray, List.set_cons_zero, List.set_cons_succ])
          have hcb := HM.out.new2 p2 (g := w7.heap.size + 1) (by omega) (by simp) (newc1 (w7.drew.alloc (.cells #[.slice AT (2 * m) (2 * m)] 36)) (.slice A6 (m + 1) (m + 1)) 25 (w7.heap.size + 1) hN2.out.symm)
          have hZB : Below w3.heap.size w3 w3 := Below.refl _ _
          refine wpAnyM_ready (rs := [9]) (by kernel_rfl) (by simp) ?_
          refine AllReadyM.cons rfl (fun K hK => ?_) AllReadyM.nil
          refine step_appSG 36 25 _ 1 24 Tryz.underlying36 info_ints (by rfl) (by omega) w3 (w7.heap.size + 1) [.slice A6 (m + 1) (m + 1)] (by rfl) (by simp [Value.oneCell']) (by rfl) _ _ (by rfl) o v2 t us (by rfl) (by rfl) hcb (HM.out.own2b hZA p2 hZB) HTB.out.1 HTB.out.2 (Nat.le_trans (Nat.le_trans HBS.out hZA.size) (Nat.le_trans p2.size hZB.size)) ?_
          intro v2' w4 q1 q2 q3
          obtain ⟨A9, c9, rfl⟩ := row_form q1
          obtain ⟨x4, x5, x6, x7⟩ := HM.out.ob2 hZA p2 hZB q2 (.slice A8 (t + 1) c8)
          have x8 : w4.cell? ⟨o, 0, none⟩ = some v1 ∧ w4.cell? ⟨o, 1, none⟩ = some v2 := HM.out.ob2c hZA p2 hZB q2
          refine hK.out _ _ (fun _ => x8) ?_
          clear hK K
          (try simp only [Act.put, List.setIfInBounds_toArray, List.set_cons_zero, List.set_cons_succ])
          refine wpAnyM_ready (rs := [11]) (by kernel_rfl) (by simp) ?_
          refine AllReadyM.cons rfl (fun K hK => ?_) AllReadyM.nil
          go_simp
          refine hK.out _ _ (fun h => absurd h (by decide)) ?_
          clear hK K
          (try simp only [Act.put, List.setIfInBounds_toArray, List.set_cons_zero, List.set_cons_succ])
          refine wpAnyM_takeT (i := 12) rfl rfl (by kernel_rfl) (by kernel_rfl) (by kernel_rfl) (fun _ _ _ h => h) (by decide) (Or.inl ⟨by rfl, by (intro w hSw; go_simp; try with_reducible rfl)⟩) (by first | exact fun _ => by assumption | exact fun h => absurd h (by decide)) ?_
          (try simp only [Act.put, List.setIfInBounds_toArray, List.set_cons_zero, List.set_cons_succ])
          refine wpAnyM_ready (rs := [13]) (by kernel_rfl) (by simp) ?_
          refine AllReadyM.cons rfl (fun K hK => ?_) AllReadyM.nil
          go_simp
          refine hK.out _ _ (fun h => absurd h (by decide)) ?_
          clear hK K
          (try simp only [Act.put, List.setIfInBounds_toArray, List.set_cons_zero, List.set_cons_succ])
          refine wpAnyM_done (by kernel_rfl) ?_ _
          have em := HMM.out
          subst em
          have hfin := HM.out.two (B := w6.heap.size) HCL.out HOL.out HK7.out.2.2.2.size HV1.out HV2.out HKU.out hZA p1 p2 p3 hZB q1 q2 q3
          have HFIN := Lib.hid hfin
          have hgrow := HKG.out _ _ _ _ (.slice A8 (t + 1) c8) (.slice A9 (t + 1) c9) hZA p2 hZB q2
          clear x4 x5 x6 x7 x8 x3 hfin
          have eli := HNL.out.2
          go_wp2
          go_roundw
          case rel => exact ⟨t + 1, AN, ntT v Ls t, cN, fvs (zN p kk (co (lvE p inp Ls (lvT Ls t))) (ntT v Ls t) (LIt Ls t) (lyH p kk v inp Ls z0 D0 t).1 (lyH p kk v inp Ls z0 D0 t).2), _, _, _, _, by omega, rfl, show vi ((li : Int) - 1) = _ from congrArg vi (by omega), HZL.out.1, HZL.out.2.1, HZL.out.2.2.1, HZL.out.2.2.2, hgrow.1, HK7.out.2.1, hgrow.2.1, HFIN.out, hgrow.2.2⟩
          case measure => simp only [intOf]; omega
      · skip
        go_simp
        refine hK.out _ _ (fun _ => HM.out.ob0 HZ4.out) ?_
        clear hK K
        (try simp only [Act.put, List.setIfInBounds_toArray, List.set_cons_zero, List.set_cons_succ])
        refine wpAnyM_ready (rs := [3]) (by kernel_rfl) (by simp) ?_
        refine AllReadyM.cons rfl (fun K hK => ?_) AllReadyM.nil
        go_simp
        refine hK.out _ _ (fun _ => HM.out.ob0 HZ3.out) ?_
        clear hK K
        (try simp only [Act.put, List.setIfInBounds_toArray, List.set_cons_zero, List.set_cons_succ])
        refine wpAnyM_ready (rs := [4]) (by kernel_rfl) (by simp) ?_
        refine AllReadyM.cons rfl (fun K hK => ?_) AllReadyM.nil
        refine step_appSG 39 36 _ 1 24 Tryz.underlying39 info_tabG (by rfl) (by omega) ((w7.drew.alloc (.cells #[.slice A6 (m + 1) (m + 1)] 25)).alloc (.cells #[.slice AT (2 * m) (2 * m)] 36)) (w7.heap.size + 1) [.slice AT (2 * m) (2 * m)] (by rfl) (by simp [Value.oneCell']) (by rfl) _ _ (by rfl) o v1 t xs (by rfl) (by rfl) (newc1 (w7.drew.alloc (.cells #[.slice A6 (m + 1) (m + 1)] 25)) _ _ _ hN3.out.symm) (HM.out.below HZ3.out).own1 HTB.out.1 HTB.out.2 (Nat.le_trans HBS.out HZ3.out.size) ?_
        intro v1' w3 p1 p2 p3
        obtain ⟨A8, c8, rfl⟩ := row_form p1
        have hZA := HZ3.out
        have x3 := HM.out.ob1 hZA p2 (Below.refl _ w3)
        refine hK.out _ _ (fun _ => x3) ?_
        clear hK K
        (try simp only [Act.put, List.setIfInBounds_toArray, List.set_cons_zero, List.set_cons_succ])
        refine wpAnyM_takeT (i := 10) rfl rfl (by kernel_rfl) (by kernel_rfl) (by kernel_rfl) (fun _ _ _ h => h) (by decide) (Or.inl ⟨by rfl, by (intro w hSw; go_simp; try with_reducible rfl)⟩) (by first | exact fun _ => by assumption | exact fun h => absurd h (by decide)) ?_
        (try simp only [Act.put, List.setIfInBounds_toArray, List.set_cons_zero, List.set_cons_succ])
        have hcb := HM.out.new2 p2 (g := w7.heap.size) (by omega) (by simp; omega) (newc2 w7.drew (.slice A6 (m + 1) (m + 1)) 25 (.cells #[.slice AT (2 * m) (2 * m)] 36) w7.heap.size (by rfl))
        have hZB : Below w3.heap.size w3 w3 := Below.refl _ _
        refine wpAnyM_ready (rs := [9]) (by kernel_rfl) (by simp) ?_
        refine AllReadyM.cons rfl (fun K hK => ?_) AllReadyM.nil
        refine step_appSG 36 25 _ 1 24 Tryz.underlying36 info_ints (by rfl) (by omega) w3 w7.heap.size [.slice A6 (m + 1) (m + 1)] (by rfl) (by simp [Value.oneCell']) (by rfl) _ _ (by rfl) o v2 t us (by rfl) (by rfl) hcb (HM.out.own2b hZA p2 hZB) HTB.out.1 HTB.out.2 (Nat.le_trans (Nat.le_trans HBS.out hZA.size) (Nat.le_trans p2.size hZB.size)) ?_
        intro v2' w4 q1 q2 q3
        obtain ⟨A9, c9, rfl⟩ := row_form q1
        obtain ⟨x4, x5, x6, x7⟩ := HM.out.ob2 hZA p2 hZB q2 (.slice A8 (t + 1) c8)
        have x8 : w4.cell? ⟨o, 0, none⟩ = some v1 ∧ w4.cell? ⟨o, 1, none⟩ = some v2 := HM.out.ob2c hZA p2 hZB q2
        refine hK.out _ _ (fun _ => x8) ?_
        clear hK K
        (try simp only [Act.put, List.setIfInBounds_toArray, List.set_cons_zero, List.set_cons_succ])
        refine wpAnyM_ready (rs := [11]) (by kernel_rfl) (by simp) ?_
        refine AllReadyM.cons rfl (fun K hK => ?_) AllReadyM.nil
        go_simp
        refine hK.out _ _ (fun h => absurd h (by decide)) ?_
        clear hK K
        (try simp only [Act.put, List.setIfInBounds_toArray, List.set_cons_zero, List.set_cons_succ])
        refine wpAnyM_takeT (i := 12) rfl rfl (by kernel_rfl) (by kernel_rfl) (by kernel_rfl) (fun _ _ _ h => h) (by decide) (Or.inl ⟨by rfl, by (intro w hSw; go_simp; try with_reducible rfl)⟩) (by first | exact fun _ => by assumption | exact fun h => absurd h (by decide)) ?_
        (try simp only [Act.put, List.setIfInBounds_toArray, List.set_cons_zero, List.set_cons_succ])
        refine wpAnyM_ready (rs := [13]) (by kernel_rfl) (by simp) ?_
        refine AllReadyM.cons rfl (fun K hK => ?_) AllReadyM.nil
        go_simp
        refine hK.out _ _ (fun h => absurd h (by decide)) ?_
        clear hK K
        (try simp only [Act.put, List.setIfInBounds_toArray, List.set_cons_zero, List.set_cons_succ])
        refine wpAnyM_done (by kernel_rfl) ?_ _
        have em := HMM.out
        subst em
        have hfin := HM.out.two (B := w6.heap.size) HCL.out HOL.out HK7.out.2.2.2.size HV1.out HV2.out HKU.out hZA p1 p2 p3 hZB q1 q2 q3
        have HFIN := Lib.hid hfin
        have hgrow := HKG.out _ _ _ _ (.slice A8 (t + 1) c8) (.slice A9 (t + 1) c9) hZA p2 hZB q2
        clear x4 x5 x6 x7 x8 x3 hfin
        have eli := HNL.out.2
        go_wp2
        go_roundw
        case rel => exact ⟨t + 1, AN, ntT v Ls t, cN, fvs (zN p kk (co (lvE p inp Ls (lvT Ls t))) (ntT v Ls t) (LIt Ls t) (lyH p kk v inp Ls z0 D0 t).1 (lyH p kk v inp Ls z0 D0 t).2), _, _, _, _, by omega, rfl, show vi ((li : Int) - 1) = _ from congrArg vi (by omega), HZL.out.1, HZL.out.2.1, HZL.out.2.2.1, HZL.out.2.2.2, hgrow.1, HK7.out.2.1, hgrow.2.1, HFIN.out, hgrow.2.2⟩
        case measure => simp only [intOf]; omega
    · obtain rfl : t = nL := by omega
      have k1 : ¬ (0 : Int) ≤ (t : Int) - 1 - (t : Int) := by omega
      have k1' : ¬ (t : Int) ≤ (t : Int) - 1 := by omega
      obtain ⟨A1, c1, rfl⟩ := row_form hOS.own1
      obtain ⟨A2, c2, rfl⟩ := row_form hOS.own2
      have hR6 : Blk w6 (w.heap.size + 1) 41 #[.slice none 0 0, .slice none 0 0] := HRC2.out.below hb HRC2.out.lt
      have hrc : w.heap.size + 1 < ch := Nat.lt_of_lt_of_le HRC2.out.lt HCW.out
      have hne : (w.heap.size + 1) ≠ o := by omega
      have x0 := (hOS.blk.cell 0).trans (show _ = some (.slice A1 t c1) from rfl)
      have x1 := (hOS.blk.cell 1).trans (show _ = some (.slice A2 t c2) from rfl)
      have z0 := hOS.blk.frozen 0
      have b1 := hOS.blk.set_ 0 (.slice A1 t t)
      have z1 := b1.frozen 1
      have y1 := (b1.cell 1).trans (show _ = some (.slice A2 t c2) from rfl)
      have b2 := b1.set_ 1 (.slice A2 t t)
      have g12 : w6.grownBy ((w6.setCell ⟨o, 0, none⟩ (.slice A1 t t)).setCell ⟨o, 1, none⟩ (.slice A2 t t)).drew (some o) := grownBy_trans (grownBy_trans blk_grown blk_grown) (grown_of_below (below_drewN (Below.refl _ _) 1 : Below _ _ ((w6.setCell ⟨o, 0, none⟩ (.slice A1 t t)).setCell ⟨o, 1, none⟩ (.slice A2 t t)).drew) _)
      have b2d := b2.drew
      obtain ⟨w7, hw7⟩ : ∃ w7, w7 = ((w6.setCell ⟨o, 0, none⟩ (.slice A1 t t)).setCell ⟨o, 1, none⟩ (.slice A2 t t)).drew := ⟨_, rfl⟩
      rw [← hw7] at g12 b2d
      have u0 := (b2d.cell 0).trans (show _ = some (.slice A1 t t) from rfl)
      have u1' := (b2d.cell 1).trans (show _ = some (.slice A2 t t) from rfl)
      have hR7 := hR6.grown g12 (by intro e; injection e with e; omega)
      have p0 := (hR7.cell 0).trans (show _ = some (.slice none 0 0) from rfl)
      have p1 := (hR7.cell 1).trans (show _ = some (.slice none 0 0) from rfl)
      have f0 := hR7.frozen 0
      have hR8 := hR7.set_ 0 (.slice A1 t t)
      have f1 := hR8.frozen 1
      have hR9 := hR8.set_ 1 (.slice A2 t t)
      have g34 : w7.grownBy ((w7.setCell ⟨w.heap.size + 1, 0, none⟩ (.slice A1 t t)).setCell ⟨w.heap.size + 1, 1, none⟩ (.slice A2 t t)) (some (w.heap.size + 1)) := grownBy_trans blk_grown blk_grown
      have hf := hOS.fin (w4 := (w7.setCell ⟨w.heap.size + 1, 0, none⟩ (.slice A1 t t)).setCell ⟨w.heap.size + 1, 1, none⟩ (.slice A2 t t)) hR6 hrc (Nat.le_trans g12.size g34.size) (fun x hx h1 h2 => by rw [g34.block x (Nat.lt_of_lt_of_le hx g12.size) (by intro e; injection e with e; omega), g12.block x hx (by intro e; injection e with e; omega)])
      have HFN := Lib.hid hf
      have r0 := (hR9.cell 0).trans (show _ = some (.slice A1 t t) from rfl)
      have r1 := (hR9.cell 1).trans (show _ = some (.slice A2 t t) from rfl)
      have hbw := HB2.out.trans (hb.mono HB2.out.size)
      have HBF := Lib.hid (show Below w.heap.size w ((w7.setCell ⟨w.heap.size + 1, 0, none⟩ (.slice A1 t t)).setCell ⟨w.heap.size + 1, 1, none⟩ (.slice A2 t t)) from (hbw.grown g12 hbw.size (fun g hg => by injection hg with hg; have := HB2.out.size; have := HCW.out; omega)).grown g34 (Nat.le_trans hbw.size g12.size) (fun g hg => by injection hg with hg; omega))
      have HRR := Lib.hid (And.intro r0 r1)
      have HW7 := Lib.hid hw7
      have HCT := Lib.hid (fun W => clipT_any A1 t c1 hf.2.2.1 W hf.2.2.2.2.1)
      have HCR := Lib.hid (fun W => clipR_any A2 t c2 hf.2.2.2.1 W hf.2.2.2.2.2.1)
      clear hf r0 r1 hbw hR9 g34 hR8 hR7 g12 b2 b2d b1 hR6 hOS hb hC hzs hza hzi hze hnz hzl hw7
      go_upto_region 12 with (fail)
      refine wp_region_M (C := fun W => W.cell? ⟨o, 0, none⟩ = some (.slice A1 t c1) ∧ W.cell? ⟨o, 1, none⟩ = some (.slice A2 t c2)) 7 (by kernel_rfl) ?_
      have xx : w6.drew.cell? ⟨o, 0, none⟩ = some (.slice A1 t c1) ∧ w6.drew.cell? ⟨o, 1, none⟩ = some (.slice A2 t c2) := ⟨x0, x1⟩
      refine wpAnyM_takeT (i := 0) rfl rfl (by kernel_rfl) (by kernel_rfl) (by kernel_rfl) (fun _ _ _ h => h) (by decide) (Or.inl ⟨by rfl, by (intro w hSw; go_simp; try with_reducible rfl)⟩) (by first | exact fun _ => by assumption | exact fun h => absurd h (by decide)) ?_
      (try simp only [Act.put, List.setIfInBounds_toArray, List.set_cons_zero, List.set_cons_succ])
      refine wpAnyM_take (i := 1) rfl rfl (by kernel_rfl) (by kernel_rfl) (by kernel_rfl) (fun _ _ _ h => h) (by decide) (by kernel_rfl) (by kernel_rfl) (Or.inl ⟨by rfl, by (intro w hSw; (try dsimp only at hSw); go_simp; try with_reducible rfl)⟩) (by assumption) ?_
      (try simp only [Act.put, List.setIfInBounds_toArray, List.set_cons_zero, List.set_cons_succ])
      refine wpAnyM_takeT (i := 3) rfl rfl (by kernel_rfl) (by kernel_rfl) (by kernel_rfl) (fun _ _ _ h => h) (by decide) (Or.inl ⟨by rfl, by (intro w hSw; go_simp; try with_reducible rfl)⟩) (by first | exact fun _ => by assumption | exact fun h => absurd h (by decide)) ?_
      (try simp only [Act.put, List.setIfInBounds_toArray, List.set_cons_zero, List.set_cons_succ])
      refine wpAnyM_take (i := 4) rfl rfl (by kernel_rfl) (by kernel_rfl) (by kernel_rfl) (fun _ _ _ h => h) (by decide) (by kernel_rfl) (by kernel_rfl) (Or.inl ⟨by rfl, by (intro w hSw; (try dsimp only at hSw); go_simp; try with_reducible rfl)⟩) (by assumption) ?_
      (try simp only [Act.put, List.setIfInBounds_toArray, List.set_cons_zero, List.set_cons_succ])
      refine wpAnyM_ready (rs := [2]) (by kernel_rfl) (by simp) ?_
      refine AllReadyM.cons rfl (fun K hK => ?_) AllReadyM.nil
      go_simp
      refine (HCT.out _).mono ?_
      rintro _ _ ⟨rfl, rfl⟩
      refine hK.out _ _ (fun _ => xx) ?_
      clear hK K
      (try simp only [Act.put, List.setIfInBounds_toArray, List.set_cons_zero, List.set_cons_succ])
      refine wpAnyM_takeT (i := 6) rfl rfl (by kernel_rfl) (by kernel_rfl) (by kernel_rfl) (fun _ _ _ h => h) (by decide) (Or.inl ⟨by rfl, by (intro w hSw; go_simp; try with_reducible rfl)⟩) (by first | exact fun _ => by assumption | exact fun h => absurd h (by decide)) ?_
      (try simp only [Act.put, List.setIfInBounds_toArray, List.set_cons_zero, List.set_cons_succ])
      refine wpAnyM_ready (rs := [5]) (by kernel_rfl) (by simp) ?_
      refine AllReadyM.cons rfl (fun K hK => ?_) AllReadyM.nil
      go_simp
      refine (HCR.out _).mono ?_
      rintro _ _ ⟨rfl, rfl⟩
      refine hK.out _ _ (fun _ => xx) ?_
      clear hK K
      (try simp only [Act.put, List.setIfInBounds_toArray, List.set_cons_zero, List.set_cons_succ])
      clear xx
      refine wpAnyM_ready (rs := [7]) (by kernel_rfl) (by simp) ?_
      refine AllReadyM.cons rfl (fun K hK => ?_) AllReadyM.nil
      go_simp
      refine hK.out _ _ (fun h => absurd h (by decide)) ?_
      clear hK K
      (try simp only [Act.put, List.setIfInBounds_toArray, List.set_cons_zero, List.set_cons_succ])
      refine wpAnyM_takeT (i := 8) rfl rfl (by kernel_rfl) (by kernel_rfl) (by kernel_rfl) (fun _ _ _ h => h) (by decide) (Or.inl ⟨by rfl, by (intro w hSw; go_simp; try with_reducible rfl)⟩) (by first | exact fun _ => by assumption | exact fun h => absurd h (by decide)) ?_
      (try simp only [Act.put, List.setIfInBounds_toArray, List.set_cons_zero, List.set_cons_succ])
      refine wpAnyM_ready (rs := [9]) (by kernel_rfl) (by simp) ?_
      refine AllReadyM.cons rfl (fun K hK => ?_) AllReadyM.nil
      go_simp
      refine hK.out _ _ (fun h => absurd h (by decide)) ?_
      clear hK K
      (try simp only [Act.put, List.setIfInBounds_toArray, List.set_cons_zero, List.set_cons_succ])
      refine wpAnyM_done (by kernel_rfl) ?_ _
      go_upto_region 13 with (fail)
      rw [← HW7.out]
      go_wp2
      have r0 := HRR.out.1
      have r1 := HRR.out.2
      have hF := HFN.out
      refine bodyPost_ret (v := .tuple #[.agg #[.slice A1 t t, .slice A2 t t], .nilIface]) (by simp [results, Tryz.results9, go_sem, r0, r1]) rfl ⟨A1, A2, by rw [HLN.out], ?_, HBF.out⟩
      rw [HLN.out, ← HZD.out.1, ← HZD.out.2]
      exact hF.2.2.2.2.2.2
end Go.Proofs.YteceghbjjnknbaaGreat

namespace Go.Proofs.YteceghbjjnknbaaGreat
open Go.RowKit Zp
set_option maxRecDepth 100000 in
set_option maxHeartbeats 4000000 in
theorem pvan_any (p : Nat) [NeZero p] (hp : IsPrime p) (hp1 : 2 ≤ p) (hp2 : p ≤ 2147483647) (b : Nat) (A : Option Addr) (na ca : Nat) (xs : List Int) (hna : xs.length = na) (hxs : ∀ n ∈ xs, I64 n) (hr : na * 8 ≤ 140737488351232) (w : World) (hc : w.cell? ⟨b, 0, none⟩ = some (vi p)) (hsx : SL w A xs) :
    Calls Tryz.prog 121 #[.pointer (some ⟨b, 0, none⟩), .slice A na ca] w fun e w' => Made (fvs (vanL (els p xs))) w e w' := by
  have hbl : b < w.heap.size := block_lt_of_cell hc
  obtain ⟨l, hl⟩ : ∃ l, l = els p xs := ⟨_, rfl⟩
  rw [← hl]
  have hll : l.length = na := by rw [hl]; simp [hna]
  have hco : ∀ k (hk : k < xs.length) (hk' : k < l.length), l[k] = el p xs[k] := fun k hk hk' => by simp [hl]
  have ho1 : OwnC (w.alloc (.cells #[vi 1] 3)) w.heap.size w.heap.size (0 + 1) (0 + 1) (vanL (l.take 0)) := by
    refine ⟨rfl, ?_⟩
    have h := own_lit w w.heap.size [1] (Nat.le_refl _) (by simp [maxLen])
    have e : fvs (vanL (l.take 0)) = [1] := by rw [List.take_zero, vanL]; simp [fv_one hp1]
    rw [e]; exact h
  have HO1 := Lib.hid ho1
  have HLL := Lib.hid hll
  have HCO := Lib.hid hco
  have HNA := Lib.hid hna
  have HP := Lib.hid hp
  clear hl hll hna hco ho1 hp
  go_enter Tryz.func121, Tryz.ntmps121
  go_wp2
  go_loopw [5, 14] (fun v i wr => ∃ k g : Nat, k ≤ na ∧ i = vi k ∧ v = .slice (some ⟨g, 0, none⟩) (k + 1) (k + 1) ∧ OwnC wr w.heap.size g (k + 1) (k + 1) (vanL (l.take k)) ∧ Below w.heap.size w wr) (fun _ i _ => na - (intOf i).toNat)
  case atStart => exact ⟨0, w.heap.size, Nat.zero_le _, rfl, rfl, HO1.out, (Below.refl _ _).alloc (Nat.le_refl _) _⟩
  case round =>
    obtain ⟨k, g, hk, rfl, rfl, hown, hb⟩ := hrel
    obtain ⟨W0, hW0⟩ : ∃ W0 : World, W0 = wr := ⟨_, rfl⟩
    subst hW0
    by_cases hkn : k < na
    · have hkl : k < l.length := by rw [HLL.out]; exact hkn
      have hkx : k < xs.length := by rw [HNA.out]; exact hkn
      obtain ⟨ad, rfl, hab, hcell⟩ := (hsx.below hb).at_ hkx
      have hI := hxs _ (List.getElem_mem hkx)
      have hcr : W0.cell? ⟨b, 0, none⟩ = some (vi p) := (hb.cell (p := ⟨b, 0, none⟩) hbl).trans hc
      have hblr : b < W0.heap.size := block_lt_of_cell hcr
      have hst : vanL (l.take (k + 1)) = vanS (vanL (l.take k)) (el p xs[k]) := by
        rw [List.take_succ_eq_append_getElem hkl, vanL_snoc, HCO.out k hkx hkl]
      have hmo : Monic (vanL (l.take k)) k := by
        have h := monic_van HP.out (l.take k)
        rwa [List.length_take, Nat.min_eq_left (by omega)] at h
      generalize xs[k] = x at hcell hI hst
      generalize vanL (l.take k) = O at hown hmo hst
      obtain ⟨nx, hnx⟩ : ∃ nx, nx = k + 2 := ⟨_, rfl⟩
      have hOE := OwnC.made (p := p) W0 w.heap.size nx hb.size (by omega)
      have hmk := make_ints nx nx (Nat.le_refl _) (by omega)
      have en : (nx : Int) = (k : Int) + 1 + 1 := by omega
      rw [en] at hmk
      have HNX := Lib.hid hnx
      have HST := Lib.hid hst
      have HMO := Lib.hid hmo
      have hvs := VanIn.start O (el p x) nx (by rw [hmo.len, hnx])
      have HVS := Lib.hid hvs
      have hg := hown.lt
      have hba : Below W0.heap.size W0 (W0.alloc (.cells (zeros nx) 3)) := (Below.refl _ _).alloc (Nat.le_refl _) _
      obtain ⟨G, hG⟩ : ∃ G, G = W0.heap.size := ⟨_, rfl⟩
      have ewk : IntKind.i64.wrap ((k : Int) + 1 + 1) = (k : Int) + 1 + 1 := IntWalk.i64_in _ (by omega)
      have ewk1 : IntKind.i64.wrap ((k : Int) + 1) = (k : Int) + 1 := IntWalk.i64_in _ (by omega)
      clear hst hmo hvs en hnx
      go_wp2
      go_loopw [24] (fun t wr => ∃ (j : Nat) (N : List (Fin p)), j ≤ k + 1 ∧ t = vi j ∧ OwnC wr w.heap.size W0.heap.size nx nx N ∧ VanIn O (el p x) j N ∧ Below W0.heap.size W0 wr) (fun t _ => k + 1 - (intOf t).toNat)
      case atStart => exact ⟨0, _, Nat.zero_le _, rfl, hOE, HVS.out, hba⟩
      case round =>
        obtain ⟨j, N, hj, rfl, hoN, hvi, hb'⟩ := hrel
        by_cases hjk : j ≤ k
        · have hcr' : W0.cell? ⟨b, 0, none⟩ = some (vi p) := hcr
          have hcq : wr.cell? ⟨b, 0, none⟩ = some (vi p) := (hb'.cell (p := ⟨b, 0, none⟩) hblr).trans hcr
          have hcO := (hown.below hb').at_ j (by omega)
          have hj1 : j + 1 < nx := by rw [HNX.out]; omega
          have hcA := hoN.at_ (j + 1) hj1
          have hfA := hoN.frozen (j + 1)
          have hcB := hoN.at_ j (by omega)
          have hfB := hoN.frozen j
          obtain ⟨y, hy⟩ : ∃ y, y = co O j := ⟨_, rfl⟩
          rw [← hy] at hcO
          obtain ⟨a0, ha0⟩ : ∃ a0, a0 = co N (j + 1) := ⟨_, rfl⟩
          rw [← ha0] at hcA
          obtain ⟨c0, hc0⟩ : ∃ c0, c0 = co N j := ⟨_, rfl⟩
          rw [← hc0] at hcB
          obtain ⟨a1, ha1⟩ : ∃ a1, a1 = a0 + y := ⟨_, rfl⟩
          obtain ⟨T, hT⟩ : ∃ T, T = el p x * y := ⟨_, rfl⟩
          obtain ⟨c1, hc1⟩ : ∃ c1, c1 = c0 - T := ⟨_, rfl⟩
          have hvst := hvi.step (by rw [HMO.out.len]; omega) (a := a1) (c := c1) (by rw [ha1, ha0, hy]) (by rw [hc1, hc0, hT, hy])
          have hadd := fun W hcW => add_any p hp2 b (fv a0) (fv y) (i64_fv _ hp2) (i64_fv _ hp2) W hcW
          rw [el_fv, el_fv, ← ha1] at hadd
          have hmul := fun W hcW => mul_any p hp2 b x (fv y) hI (i64_fv _ hp2) W hcW
          rw [el_fv, ← hT] at hmul
          have hsub := fun W hcW => sub_any p hp2 b (fv c0) (fv T) (i64_fv _ hp2) (i64_fv _ hp2) W hcW
          rw [el_fv, el_fv, ← hc1] at hsub
          have HADD := Lib.hid hadd
          have HMUL := Lib.hid hmul
          have HSUB := Lib.hid hsub
          have HVST := Lib.hid hvst
          clear hadd hmul hsub hvst hy ha0 hc0 ha1 hT hc1 hvi
          have i3 : (0 : Int) ≤ (j : Int) := by omega
          have i4 : (j : Int) < (k : Int) + 1 := by omega
          have i5 : (0 : Int) ≤ (j : Int) + 1 := by omega
          have i6 : (j : Int) + 1 < nx := by omega
          have i6b : (j : Int) < nx := by omega
          have i7 : ((j : Int) + 1).toNat = j + 1 := by omega
          have i8 : IntKind.i64.wrap ((j : Int) + 1) = (j : Int) + 1 := IntWalk.i64_in _ (by omega)
          have hmx : Tryz.prog.follows .mixedOrders = true := by kernel_rfl
          go_wp2_with fail
          refine (HADD.out _ (by exact hcq)).mono ?_
          rintro e w' ⟨rfl, k1, rfl⟩
          have hne : ¬ b = W0.heap.size := by omega
          have hcq2 : ((wr.drewN k1).setCell ⟨W0.heap.size, j + 1, none⟩ (vi (fv a1))).cell? ⟨b, 0, none⟩ = some (vi p) := setCell_keep (by exact hcq) hne
          have hoN1 := (hoN.drewN k1).store (j + 1) a1
          have hb1 := (below_drewN hb' k1).setCell (p := ⟨W0.heap.size, j + 1, none⟩) (Nat.le_refl _) (vi (fv a1))
          have hcB2 := hoN1.at_ j (by omega)
          have hfB2 := hoN1.frozen j
          have hcB3 : ((wr.drewN k1).setCell ⟨W0.heap.size, j + 1, none⟩ (vi (fv a1))).cell? ⟨W0.heap.size, j, none⟩ = some (vi (fv c0)) := by
            rw [World.cell?_setCell_other _ _ _ _ (fun e => by injection e with _ e _; omega)]
            exact hcB
          clear hcB2 i5 i6 i7 i8
          go_wp2
          refine wp_region_quiet_tail 13 hmx (by kernel_rfl) ?_
          simp only [List.take_succ_cons, List.take_zero, List.drop_succ_cons, List.drop_zero]
          repeat (quiet_step (first | (go_at_call 75; exact Calls.quiet_of (HMUL.out _ (by exact hcq2))) | (go_at_call 84; exact quiet_eq (HSUB.out _ (by exact hcq2)))))
          refine wpQuiet_nil ?_
          intro _ hw'
          obtain ⟨nq1, hw''⟩ := hw'
          subst hw''
          have hoN2 := (hoN1.drewN nq1).store j c1
          have hb2 := (below_drewN hb1 nq1).setCell (p := ⟨W0.heap.size, j, none⟩) (Nat.le_refl _) (vi (fv c1))
          go_wp2
          go_roundw
          case rel => exact ⟨j + 1, _, by omega, by go_num, hoN2, HVST.out, hb2⟩
          case measure => simp [intOf]; omega
        · obtain rfl : j = k + 1 := by omega
          have hdn := VanIn.done HP.out HMO.out (by rw [HMO.out.len]; exact hvi)
          rw [← HST.out] at hdn
          subst hdn
          have hoN2 : OwnC wr w.heap.size W0.heap.size (k + 1 + 1) (k + 1 + 1) (vanL (l.take (k + 1))) := by
            have := hoN
            rwa [HNX.out] at this
          have hbb := hb.trans (hb'.mono hb.size)
          have en : (nx : Int) = (k : Int) + 1 + 1 := by have := HNX.out; omega
          clear hvi hoN
          go_wp2
          go_roundw
          case rel => exact ⟨k + 1, W0.heap.size, by omega, by go_num, by rw [HNX.out], hoN2, hbb⟩
          case measure => simp [intOf]; omega
    · obtain rfl : k = na := by omega
      have he : l.take k = l := List.take_of_length_le (by rw [HLL.out]; exact Nat.le_refl _)
      rw [he] at hown
      clear he
      go_wp2
      go_ret
      exact ⟨_, rfl, by have := hown.2; rw [Own]; exact this, hb⟩
end Go.Proofs.YteceghbjjnknbaaGreat

namespace Go.Proofs.YteceghbjjnknbaaGreat
open Go.RowKit Zp
theorem keyed_int : Go.Maps.Keyed Tryz.prog 3 := Go.Maps.int_keyed Tryz.underlying3
theorem zero_bool (w : World) : (zeroValue 4).run Tryz.prog w = .ok (.bool false) w := by kernel_rfl
def SeenAt {p : Nat} (w : World) (g n : Nat) (l : List (Fin p)) : Prop :=
  ∃ D : DataW Unit, w.ownsMap Tryz.prog 3 (plainElem Tryz.prog 4) g n D ∧ ∀ z : Fin p, D.atKey (.int .i64 (fv z)) (.lit (.bool false)) = .lit (.bool (decide (z ∈ l)))
theorem SeenAt.made {p : Nat} (w : World) : SeenAt (p := p) (w.alloc (.map #[] 0)) w.heap.size 0 [] := ⟨_, World.ownsMap_made w _ _ _, fun z => by simp [DataW.atKey]⟩
theorem plain_bool_inv {P : Program} {e : TypeId} (he : P.underlying e = some .bool) {v : Value} {z : DataW Unit × List MemPlace} (h : plainElem P e v = some z) : ∃ b, v = .bool b ∧ z.1 = .lit (.bool b) := by
  unfold plainElem at h
  rw [he] at h
  cases v <;> simp at h
  subst h
  exact ⟨_, rfl, rfl⟩
theorem look_bool {P : Program} {k e t : TypeId} {w : World} {g n : Nat} {D : DataW Unit} (h : w.ownsMap P k (plainElem P e) g n D) (K : Go.Maps.Keyed P k) (ht : P.underlying t = some (.map k e)) (he : P.underlying e = some .bool) (hz : (zeroValue e).run P w = .ok (.bool false) w)
    {key : Value} {kl : Lit} (hkey : keyOf P k key = some kl) {b : Bool} (hb : D.atKey kl (.lit (.bool false)) = .lit (.bool b)) : (Instr.lookup t (.map (some g)) key false).run P w = .ok (.bool b) w := by
  obtain ⟨v, ps, hrun, hv⟩ := h.lookup K ht hz (plainElem_bool he false) hkey
  obtain ⟨c, rfl, hc⟩ := plain_bool_inv he hv
  rw [hb] at hc
  injection hc with hc
  injection hc with hc
  rw [hrun, hc]
theorem wf_fv {p : Nat} (z : Fin p) (hp2 : p ≤ 2147483647) : (Lit.int .i64 (fv z)).wf = true := by
  have h := i64_fv z hp2
  simp [Lit.wf, IntKind.min, IntKind.max, IntKind.signed, IntKind.bits]
  exact ⟨h.1, h.2⟩
theorem SeenAt.look {p : Nat} (hp2 : p ≤ 2147483647) {w : World} {g n : Nat} {l : List (Fin p)} (h : SeenAt w g n l) (z : Fin p) :
    (Instr.lookup 176 (.map (some g)) (vi (fv z)) false).run Tryz.prog w = .ok (.bool (decide (z ∈ l))) w := by
  obtain ⟨D, h1, h2⟩ := h
  exact look_bool h1 keyed_int Tryz.underlying176 Tryz.underlying4 (zero_bool w) (Go.Maps.keyOf_int_mk Tryz.underlying3 (wf_fv z hp2)) (h2 z)
theorem SeenAt.put {p : Nat} {w : World} {g n : Nat} {l : List (Fin p)} {D : DataW Unit} (h1 : w.ownsMap Tryz.prog 3 (plainElem Tryz.prog 4) g n D) (h2 : ∀ z : Fin p, D.atKey (.int .i64 (fv z)) (.lit (.bool false)) = .lit (.bool (decide (z ∈ l)))) (z : Fin p) :
    ∀ y : Fin p, (D.put (.int .i64 (fv z)) (.lit (.bool true))).atKey (.int .i64 (fv y)) (.lit (.bool false)) = .lit (.bool (decide (y ∈ l ++ [z]))) := fun y => by
  by_cases he : y = z
  · subst he
    rw [Go.Maps.atKey_put_same h1.isMap (by trivial)]; simp
  · rw [Go.Maps.atKey_put_other (fun e => he (by injection e with _ e; exact (fv_inj e))), h2]
    simp [he]
def SeenRel {p : Nat} (l : List (Fin p)) (na g : Nat) (w : World) (i : Value) (wr : World) : Prop := ∃ k : Nat, k ≤ na ∧ i = vi k ∧ SeenAt wr g k (l.take k) ∧ (l.take k).Nodup ∧ Below w.heap.size w wr
theorem nodup_snoc {p : Nat} {l : List (Fin p)} {z : Fin p} (h : l.Nodup) (hz : ¬ z ∈ l) : (l ++ [z]).Nodup := by
  rw [List.nodup_append]
  refine ⟨h, by simp, fun a ha b hb => ?_⟩
  rw [List.mem_singleton] at hb
  subst hb
  rintro rfl
  exact hz ha
end Go.Proofs.YteceghbjjnknbaaGreat

namespace Go.Proofs.YteceghbjjnknbaaGreat
open Go.RowKit Zp
def MadeFitP {p : Nat} [NeZero p] (xs ys : List (Fin p)) (w : World) (e : Ending) (w' : World) : Prop :=
  ∃ (o : List (Fin p)) (v : Value), Fitted xs ys xs.length o ∧ e = .returned (.tuple #[v, .nilIface]) ∧ Own w' w.heap.size v (fvs o) ∧ Below w.heap.size w w'
theorem drop_end {p : Nat} [NeZero p] (V : List (Fin p)) (x : Fin p) (i : Nat) (h : V.length ≤ i) : ev (V.drop i) x = 0 := by rw [List.drop_eq_nil_of_le h]; rfl
theorem eval_nP (p : Nat) [NeZero p] (S b : Nat) (A : Option Addr) (n cap : Nat) (xs : List Int) (hml : xs.length = n) (hxs : ∀ n ∈ xs, I64 n) (hreach : n * 8 ≤ 140737488351232) (x : Int) (hx : I64 x) (w : World) (F : Fld w S b p) (hs : SL w A xs) :
    Calls Tryz.prog 96 #[.pointer (some ⟨b, 0, none⟩), .slice A n cap, vi x] w fun e w' => SaysW (vi (fv (ev (els p xs) (el p x)))) w e w' := by
  subst hml
  exact eval_any p S b A cap xs hxs hreach x hx w F hs
def PartRel {p : Nat} [NeZero p] (V : List (Fin p)) (X : Fin p) (na base gp : Nat) (W0 : World) (r t : Value) (wr : World) : Prop :=
  ∃ (j : Nat) (P : List (Fin p)), j ≤ na ∧ t = vi j ∧ r = vi (fv (ev (V.drop (j + 1)) X)) ∧ OwnC wr base gp na na P ∧ (∀ i, j ≤ i → co P i = ev (V.drop (i + 1)) X) ∧ Below W0.heap.size W0 wr
def SumRel {p : Nat} [NeZero p] (P S : List (Fin p)) (c : Fin p) (na base gs gp : Nat) (w2 : World) (t : Value) (wr : World) : Prop :=
  ∃ (j : Nat) (M : List (Fin p)), j ≤ na ∧ t = vi j ∧ OwnC wr base gs na na M ∧ OwnC wr base gp na na P ∧ FitIn P c j S M ∧ Below w2.heap.size w2 wr
set_option maxRecDepth 100000 in
set_option maxHeartbeats 8000000 in
theorem pfit_any (p S b : Nat) [NeZero p] (A B : Option Addr) (na ca cb : Nat) (xs ys : List Int) (hna : xs.length = na) (hnb : ys.length = na) (hxs : ∀ n ∈ xs, I64 n) (hys : ∀ n ∈ ys, I64 n) (hr : na * 8 ≤ 140737488351232) (hnd : (els p xs).Nodup) (w : World) (F : Fld w S b p) (hsx : SL w A xs) (hsy : SL w B ys) :
    Calls Tryz.prog 103 #[.pointer (some ⟨b, 0, none⟩), .slice A na ca, .slice B na cb] w fun e w' => MadeFitP (els p xs) (els p ys) w e w' := by
  have hp := F.prime
  have hp1 := F.two
  have hp2 := F.max
  have hc := F.c0
  have hbl : b < w.heap.size := block_lt_of_cell hc
  obtain ⟨l, hl⟩ : ∃ l, l = els p xs := ⟨_, rfl⟩
  obtain ⟨m, hm⟩ : ∃ m, m = els p ys := ⟨_, rfl⟩
  have hvan := fun W hcW hsW => pvan_any p hp hp1 hp2 b A na ca xs hna hxs hr W hcW hsW
  rw [← hl] at hnd hvan ⊢
  rw [← hm]
  have hll : l.length = na := by rw [hl]; simp [hna]
  have hlm : m.length = na := by rw [hm]; simp [hnb]
  have hco : ∀ k (hk : k < xs.length) (hk' : k < l.length), l[k] = el p xs[k] := fun k hk hk' => by simp [hl]
  have hcm : ∀ k (hk : k < ys.length), co m k = el p ys[k] := fun k hk => by rw [hm, co_of_lt (by simpa using hk)]; simp
  have HLL := Lib.hid hll
  have HLM := Lib.hid hlm
  have HCO := Lib.hid hco
  have HCM := Lib.hid hcm
  have HNA := Lib.hid hna
  have HNB := Lib.hid hnb
  have HND := Lib.hid hnd
  have HP := Lib.hid hp
  have HVAN := Lib.hid hvan
  have hs0 := SeenAt.made (p := p) w
  have hmm := @run_makeMap Tryz.prog
  have t0 : ((na : Int) != (na : Int)) = false := by simp
  clear hl hm hll hlm hna hnb hco hcm hnd hp hvan
  go_enter Tryz.func103, Tryz.ntmps103
  go_wp2
  go_loopw [30] (fun i wr => SeenRel l na w.heap.size w i wr) (fun i _ => na - (intOf i).toNat)
  case atStart => exact ⟨0, Nat.zero_le _, rfl, hs0, by simp, (Below.refl _ _).alloc (Nat.le_refl _) _⟩
  case round =>
    obtain ⟨k, hk, rfl, hsn, hnd, hb⟩ := hrel
    have hcr : wr.cell? ⟨b, 0, none⟩ = some (vi p) := (hb.cell (p := ⟨b, 0, none⟩) hbl).trans hc
    by_cases hkn : k < na
    · have hkl : k < l.length := by rw [HLL.out]; exact hkn
      have hkx : k < xs.length := by rw [HNA.out]; exact hkn
      obtain ⟨ad, rfl, hab, hcell⟩ := (hsx.below hb).at_ hkx
      have hI := hxs _ (List.getElem_mem hkx)
      have hst : l.take (k + 1) = l.take k ++ [el p xs[k]] := by rw [List.take_succ_eq_append_getElem hkl, HCO.out k hkx hkl]
      have hof := fun W hcW => of_el p hp2 b xs[k] hI W hcW
      generalize xs[k] = x at hcell hI hst hof
      generalize el p x = z at hst hof
      have hz : ¬ z ∈ l.take k := fun h => by
        have h1 : (l.take (k + 1)).Nodup := HND.out.sublist (List.take_sublist _ _)
        rw [hst, List.nodup_append] at h1
        exact h1.2.2 z h z (by simp) rfl
      have hlk := hsn.look hp2 z
      rw [decide_eq_false hz] at hlk
      obtain ⟨D, hD1, hD2⟩ := hsn
      have HPUT := Lib.hid (SeenAt.put hD1 hD2 z)
      have hnd2 := nodup_snoc hnd hz
      rw [← hst] at hnd2
      have HOF := Lib.hid hof
      have HST := Lib.hid hst
      have HND2 := Lib.hid hnd2
      have i1 : (0 : Int) ≤ (k : Int) := by omega
      have i2 : (k : Int) < na := by omega
      clear hof hst hnd hz hD2 hnd2
      go_wp2_with fail
      refine (HOF.out _ hcr).mono ?_
      rintro e w' ⟨rfl, rfl⟩
      go_wp2_with fail
      refine (HOF.out _ hcr).mono ?_
      rintro e w' ⟨rfl, rfl⟩
      go_wp2_with (at_mapUpdate; refine wpList_mapUpdate_own _ rfl _ _ _ 176 rfl 3 4 keyed_int Tryz.underlying176 _ w.heap.size k _ rfl hD1 (by simp only [maxLen]; omega) _ _ _ rfl rfl (Go.Maps.keyOf_int_mk Tryz.underlying3 (wf_fv z hp2)) _ [] (plainElem_bool Tryz.underlying4 true) ?_; intro w1 hD3 hg1)
      have hs2 : SeenAt w1 w.heap.size (k + 1) (l.take (k + 1)) := by rw [HST.out]; exact ⟨_, hD3, HPUT.out⟩
      have hb2 : Below w.heap.size w w1 := hb.grown hg1 hb.size (fun j hj => by injection hj with hj; omega)
      go_roundw
      case rel => exact ⟨k + 1, by omega, by go_num, hs2, HND2.out, hb2⟩
      case measure => simp [intOf]; omega
    · have ek : na = k := by omega
      subst ek
      clear hsn hnd hkn hk hs0
      have hsx1 := hsx.below hb
      have hsy1 := hsy.below hb
      have F1 := F.below hb F.le
      have hV := monic_van HP.out l
      have hpart := fun P i hi => PartOk.van (P := P) (i := i) HP.out (l := l) hi
      have hvl := HVAN.out _ hcr hsx1
      have hstep := fun (k : Nat) (S M P : List (Fin p)) (c : Fin p) (h : FitSum l m k S) (hk : k < l.length) (hP : PartOk (vanL l) (co l k) P) (hPl : P.length = l.length) (hc : c = co m k * Zp.inv (ev P (co l k))) (hm : FitIn P c P.length S M) => FitSum.step HP.out HND.out h hk hP hPl hc hm
      generalize vanL l = V at hV hvl hstep
      rw [HLL.out] at hV
      have HV := Lib.hid hV
      have HVL := Lib.hid hvl
      have HSTEP := Lib.hid hstep
      have hmk := make_ints na na (Nat.le_refl _) (by omega)
      clear hV hpart hvl hstep
      go_wp2_with fail
      refine (HVL.out).mono ?_
      rintro e w2 ⟨v2, rfl, hownV, hb2⟩
      have hlV : (fvs V).length = na + 1 := by rw [List.length_map]; exact HV.out.len
      obtain ⟨gV, cV, rfl, hgV, hgV'⟩ := hownV.block (by omega)
      obtain ⟨nv, hnv⟩ : ∃ nv, nv = na + 1 := ⟨_, rfl⟩
      rw [← hnv] at hlV
      rw [hlV] at hownV ⊢
      have hownVC : OwnC w2 wr.heap.size gV nv cV V := ⟨by rw [HV.out.len, hnv], hownV⟩
      have hbw2 := hb.trans (hb2.mono hb.size)
      have hsx2 := hsx1.below hb2
      have hsy2 := hsy1.below hb2
      have F2 := F1.below hb2 F1.le
      have hOE := OwnC.made (p := p) w2 w.heap.size na hbw2.size (by omega)
      have hba : Below w2.heap.size w2 (w2.alloc (.cells (zeros na) 3)) := (Below.refl _ _).alloc (Nat.le_refl _) _
      have HFS := Lib.hid (FitSum.start l m na HLL.out.symm)
      have HNV := Lib.hid hnv
      have HLV := Lib.hid hlV
      clear hownV hnv hlV F1 hsx1 hsy1 hcr hb2
      go_wp2
      go_loopw [53] (fun i wr => ∃ (k : Nat) (S' : List (Fin p)), k ≤ na ∧ i = vi k ∧ OwnC wr w.heap.size w2.heap.size na na S' ∧ FitSum l m k S' ∧ Below w2.heap.size w2 wr) (fun i _ => na - (intOf i).toNat)
      case atStart => exact ⟨0, _, Nat.zero_le _, rfl, hOE, HFS.out, hba⟩
      case round =>
        obtain ⟨k, S', hk, rfl, hoS, hfs, hbr⟩ := hrel
        obtain ⟨W0, hW0⟩ : ∃ W0 : World, W0 = wr := ⟨_, rfl⟩
        subst hW0
        have F0 := F2.below hbr F2.le
        have hc0 := F0.c0
        have hbl0 : b < W0.heap.size := block_lt_of_cell hc0
        have HFSK := Lib.hid hfs
        clear hfs
        by_cases hkn : k < na
        · have hkl : k < l.length := by rw [HLL.out]; exact hkn
          have hkx : k < xs.length := by rw [HNA.out]; exact hkn
          have hky : k < ys.length := by rw [HNB.out]; exact hkn
          obtain ⟨ad, rfl, hab, hcx⟩ := (hsx2.below hbr).at_ hkx
          obtain ⟨ad2, rfl, hab2, hcy⟩ := (hsy2.below hbr).at_ hky
          have hIx := hxs _ (List.getElem_mem hkx)
          have hIy := hys _ (List.getElem_mem hky)
          have hlx : co l k = el p xs[k] := by rw [co_of_lt hkl, HCO.out k hkx hkl]
          have hmy := HCM.out k hky
          generalize xs[k] = x at hcx hIx hlx
          generalize ys[k] = y at hcy hIy hmy
          obtain ⟨X, hX⟩ : ∃ X, X = el p x := ⟨_, rfl⟩
          have HXE := Lib.hid hX
          have HLX := Lib.hid (hlx.trans hX.symm)
          have HMY := Lib.hid hmy
          have hoV := hownVC.below hbr
          have hOP := OwnC.made (p := p) W0 w.heap.size na (Nat.le_trans hbw2.size hbr.size) (by omega)
          have hba0 : Below W0.heap.size W0 (W0.alloc (.cells (zeros na) 3)) := (Below.refl _ _).alloc (Nat.le_refl _) _
          have HP0 : Hid (∀ i, na ≤ i → co (List.replicate na (0 : Fin p)) i = ev (V.drop (i + 1)) X) := Lib.hid fun i hi => by rw [co_replicate, drop_end V X _ (by rw [HV.out.len]; omega)]
          have HR0 : Hid (vi 0 = vi (fv (ev (V.drop (na + 1)) X))) := Lib.hid (by rw [drop_end V X _ (by rw [HV.out.len]; omega), fv_zero])
          clear hlx hmy hX
          go_wp2
          go_loopw [16, 17] (fun r t wr => PartRel V X na w.heap.size W0.heap.size W0 r t wr) (fun _ t _ => (intOf t).toNat)
          case atStart => exact ⟨na, _, Nat.le_refl _, rfl, HR0.out, hOP, HP0.out, hba0⟩
          case round =>
            obtain ⟨j, P, hj, rfl, rfl, hoP, hPj, hb3⟩ := hrel
            have hcr : wr.cell? ⟨b, 0, none⟩ = some (vi p) := (hb3.cell (p := ⟨b, 0, none⟩) hbl0).trans hc0
            have HPJ := Lib.hid hPj
            clear hPj
            by_cases hj0 : j = 0
            · subst hj0
              obtain ⟨W3, hW3⟩ : ∃ W3 : World, W3 = wr := ⟨_, rfl⟩
              subst hW3
              have HPO := Lib.hid (show PartOk V X P from ⟨fun i => HPJ.out i (Nat.zero_le _)⟩)
              have hltY : (ad2.add k).block < W3.heap.size := by rw [block_of_add]; exact Nat.lt_of_lt_of_le hab2 hb3.size
              have hcy3 : W3.cell? (ad2.add k) = some (vi y) := (hb3.cell (p := ad2.add k) (by rw [block_of_add]; exact hab2)).trans hcy
              have F3 := F0.below hb3 F0.le
              have hbl3 : b < W3.heap.size := block_lt_of_cell hcr
              have hlP : (fvs P).length = na := by rw [List.length_map]; exact hoP.1
              have hsP := hoP.sl
              have hev := fun W FW hsW => eval_nP p S b (some ⟨W0.heap.size, 0, none⟩) na na (fvs P) hlP (i64_fvs _ hp2) hr x hIx W FW hsW
              simp only [els_fvs] at hev
              rw [← HXE.out] at hev
              obtain ⟨E, hE⟩ : ∃ E, E = ev P X := ⟨_, rfl⟩
              rw [← hE] at hev
              obtain ⟨C, hC⟩ : ∃ C, C = co m k * Zp.inv E := ⟨_, rfl⟩
              have hdiv := fun W hcW => div_any p hp1 hp2 b y (fv E) hIy (i64_fv _ hp2) W hcW
              rw [el_fv, ← HMY.out, ← hC] at hdiv
              have HEV := Lib.hid hev
              have HDIV := Lib.hid hdiv
              have HCE := Lib.hid (show C = co m k * Zp.inv (ev P (co l k)) by rw [hC, hE, HLX.out])
              clear hev hdiv hE hC hlP HPJ hj HP0 HR0
              go_wp2
              go_region_held3 (fun w' => w'.cell? (ad2.add k) = some (vi y)) (first | exact hcy3 | exact (hb5.cell hltY).trans hcy3) ((first | (go_at_call 96; refine (HEV.out _ (by first | exact F3 | exact F3.drewR | exact F3.drewN _) (by exact hsP)).mono ?_; rintro e w5 ⟨rfl, hb5⟩) | (go_at_call 122; refine (HDIV.out _ (by exact (hb5.cell (p := ⟨b, 0, none⟩) hbl3).trans hcr)).mono ?_; rintro e w' ⟨rfl, k5, rfl⟩)))
              have hb35 : Below W3.heap.size W3 (w5.drewN k5) := below_drewN ((show Below W3.heap.size W3 W3.drew from below_drewN (Below.refl _ _) 1).trans hb5) k5
              have hb05 := hb3.trans (hb35.mono hb3.size)
              have hoS5 := hoS.below hb05
              have hoP5 := hoP.below hb35
              have hbr5 := hbr.trans (hb05.mono hbr.size)
              have HSTEP2 := Lib.hid (fun M (hm : FitIn P C na S' M) => HSTEP.out k S' M P C HFSK.out hkl (by rw [HLX.out]; exact HPO.out) (by rw [hoP.1, HLL.out]) HCE.out (by rw [hoP.1]; exact hm))
              generalize w5.drewN k5 = W5 at hb35 hb05 hoS5 hoP5 hbr5 ⊢
              clear hb5 hb05 hcy3 hcr F3 hbl3 hsP HEV HDIV HCE HPO hltY
              go_wp2
              go_loopw [94] (fun t wr => SumRel P S' C na w.heap.size w2.heap.size W0.heap.size w2 t wr) (fun t _ => na - (intOf t).toNat)
              case atStart => exact ⟨0, S', Nat.zero_le _, rfl, hoS5, hoP5, FitIn.start _ _ _, hbr5⟩
              case round =>
                obtain ⟨j, M, hj, rfl, hoM, hoQ, hfi, hbq⟩ := hrel
                have HFI := Lib.hid hfi
                clear hfi
                by_cases hjn : j < na
                · have hcq : wr.cell? ⟨b, 0, none⟩ = some (vi p) := (F2.below hbq F2.le).c0
                  have hcP := hoQ.at_ j hjn
                  have hcM := hoM.at_ j hjn
                  have hfM := hoM.frozen j
                  obtain ⟨q, hq⟩ : ∃ q, q = co P j := ⟨_, rfl⟩
                  rw [← hq] at hcP
                  obtain ⟨o, ho⟩ : ∃ o, o = co M j := ⟨_, rfl⟩
                  rw [← ho] at hcM
                  obtain ⟨T, hT⟩ : ∃ T, T = C * q := ⟨_, rfl⟩
                  obtain ⟨U, hU⟩ : ∃ U, U = o + T := ⟨_, rfl⟩
                  have hst := HFI.out.step (by rw [hoS.1]; exact hjn)
                  rw [← ho, ← hq, ← hT, ← hU] at hst
                  have hmul := fun W hcW => mul_any p hp2 b (fv C) (fv q) (i64_fv _ hp2) (i64_fv _ hp2) W hcW
                  rw [el_fv, el_fv, ← hT] at hmul
                  have hadd := fun W hcW => add_any p hp2 b (fv o) (fv T) (i64_fv _ hp2) (i64_fv _ hp2) W hcW
                  rw [el_fv, el_fv, ← hU] at hadd
                  have HMUL := Lib.hid hmul
                  have HADD := Lib.hid hadd
                  have HST := Lib.hid hst
                  have j1 : (0 : Int) ≤ (j : Int) := by omega
                  have j2 : (j : Int) < na := by omega
                  have hmx : Tryz.prog.follows .mixedOrders = true := by kernel_rfl
                  clear hmul hadd hst hq ho hT hU
                  go_wp2
                  refine wp_region_quiet_tail 13 hmx (by kernel_rfl) ?_
                  simp only [List.take_succ_cons, List.take_zero, List.drop_succ_cons, List.drop_zero]
                  repeat (quiet_step (first | (go_at_call 75; exact Calls.quiet_of (HMUL.out _ (by exact hcq))) | (go_at_call 73; exact Calls.quiet_of (HADD.out _ (by exact hcq)))))
                  refine wpQuiet_nil ?_
                  intro _ hw'
                  obtain ⟨nq1, hw''⟩ := hw'
                  subst hw''
                  have hoM2 := (hoM.drewN nq1).store j U
                  have hoQ2 := (hoQ.drewN nq1).far (q := ⟨w2.heap.size, j, none⟩) (by show W0.heap.size ≠ w2.heap.size; have := hoS.lt.2; omega) (vi (fv U))
                  have hbq2 := (below_drewN hbq nq1).setCell (p := ⟨w2.heap.size, j, none⟩) (Nat.le_refl _) (vi (fv U))
                  go_wp2
                  go_roundw
                  case rel => exact ⟨j + 1, _, by omega, by go_num, hoM2, hoQ2, HST.out, hbq2⟩
                  case measure => simp [intOf]; omega
                · have ej : j = na := by omega
                  have hdn := HSTEP2.out M (by rw [← ej]; exact HFI.out)
                  have HDN := Lib.hid hdn
                  have HEJ := Lib.hid ej
                  clear hdn ej
                  have t1 : ¬ (j : Int) < na := by omega
                  go_wp2
                  go_roundw
                  case rel => exact ⟨k + 1, M, by omega, by go_num, hoM, HDN.out, hbq⟩
                  case measure => simp [intOf]; omega
            · have hjV := (hoV.below hb3).at_ j (by rw [HNV.out]; omega)
              have hcP := hoP.at_ (j - 1) (by omega)
              have hfP := hoP.frozen (j - 1)
              generalize co P (j - 1) = p0 at hcP
              obtain ⟨r, hr'⟩ : ∃ r, r = ev (V.drop (j + 1)) X := ⟨_, rfl⟩
              obtain ⟨vj, hvj⟩ : ∃ vj, vj = co V j := ⟨_, rfl⟩
              have hst : ev (V.drop j) X = vj + r * X := by rw [ev_drop, hvj, hr']; grind
              rw [← hr']
              rw [← hvj] at hjV
              obtain ⟨T, hT⟩ : ∃ T, T = r * X := ⟨_, rfl⟩
              obtain ⟨U, hU⟩ : ∃ U, U = vj + T := ⟨_, rfl⟩
              rw [← hT, ← hU] at hst
              have hmul := fun W hcW => mul_any p hp2 b (fv r) x (i64_fv _ hp2) hIx W hcW
              rw [el_fv, ← HXE.out, ← hT] at hmul
              have hadd := fun W hcW => add_any p hp2 b (fv vj) (fv T) (i64_fv _ hp2) (i64_fv _ hp2) W hcW
              rw [el_fv, el_fv, ← hU] at hadd
              have HMUL := Lib.hid hmul
              have HADD := Lib.hid hadd
              have HST := Lib.hid hst
              have j1 : (0 : Int) < (j : Int) := by omega
              have j2 : (0 : Int) ≤ (j : Int) := by omega
              have j3 : (j : Int) < nv := by have := HNV.out; omega
              have j4 : (0 : Int) ≤ (j : Int) - 1 := by omega
              have j5 : (j : Int) - 1 < na := by omega
              have j6 : ((j : Int) - 1).toNat = j - 1 := by omega
              have j7 : IntKind.i64.wrap ((j : Int) - 1) = (j : Int) - 1 := IntWalk.i64_in _ (by omega)
              clear hmul hadd hst hr' hvj hT hU
              go_wp2
              go_quiet ((first | (go_at_call 75; exact Calls.quiet_of (HMUL.out _ (by exact hcr))) | (go_at_call 73; exact Calls.quiet_of (HADD.out _ (by exact hcr)))))
              go_wp2
              go_roundw
              case rel => exact ⟨j - 1, P.set (j - 1) U, by omega, by congr 1; omega, by rw [show j - 1 + 1 = j by omega, HST.out], (hoP.drewN nq).store (j - 1) U, fun i hi => by
                rw [co_set' _ _ _ (by rw [hoP.1]; omega)]
                by_cases he : i = j - 1
                · rw [if_pos he, he, show j - 1 + 1 = j by omega, HST.out]
                · rw [if_neg he]; exact HPJ.out i (by omega), (below_drewN hb3 nq).setCell (p := ⟨W0.heap.size, j - 1, none⟩) (Nat.le_refl _) _⟩
              case measure => simp [intOf]; omega
        · have ek : na = k := by omega
          subst ek
          have hdn := (show FitSum l m l.length S' by rw [HLL.out]; exact HFSK.out).done
          have hlS : (fvs S').length = na := by rw [List.length_map]; exact hoS.1
          have ht := ptrim_n p hp2 b (some ⟨w2.heap.size, 0, none⟩) na na (fvs S') hlS (i64_fvs _ hp2) (by omega) (Nat.le_refl _) W0 hc0 hoS.sl
          rw [els_fvs] at ht
          generalize trimL S' = O at hdn ht
          have HDN := Lib.hid hdn
          have HT := Lib.hid ht
          have hb0 := hbw2.trans (hbr.mono hbw2.size)
          clear hdn ht hlS
          go_wp2_with fail
          refine (HT.out).mono ?_
          rintro e w4 ⟨v4, rfl, hown4, hb4⟩
          go_wp2
          go_ret2
          exact ⟨O, v4, HDN.out, rfl, hown4.more hb0.size, hb0.trans (hb4.mono hb0.size)⟩
end Go.Proofs.YteceghbjjnknbaaGreat

namespace Go.Proofs.YteceghbjjnknbaaGreat
open Go.RowKit Zp
def upJ (k : Nat) : List Int := (List.range k).map fun (i : Nat) => (i : Int)
theorem upJ_len (k : Nat) : (upJ k).length = k := by simp [upJ]
theorem upJ_succ (k : Nat) : upJ (k + 1) = upJ k ++ [(k : Int)] := by simp [upJ, List.range_succ]
def ThroughIs {p : Nat} [NeZero p] (l : List (Fin p)) (x : Fin p) (w : World) (e : Ending) (w' : World) : Prop :=
  ∃ Q : List (Fin p), Fitted ((List.range l.length).map fun t => el p ((t : Nat) : Int)) l l.length Q ∧ e = .returned (vi (fv (ev Q x))) ∧ Below w.heap.size w w'
set_option maxRecDepth 100000 in
set_option maxHeartbeats 1000000 in
theorem through_any (p S b : Nat) [NeZero p] (h23 : 23 ≤ p) (n : Nat) (hn : n ≤ 16) (A : Option Addr) (cA : Nat) (xs : List Int) (hml : xs.length = n) (hxs : ∀ x ∈ xs, I64 x) (r : Int) (hr : I64 r) (w : World) (F : Fld w S b p) (hs : SL w A xs) :
    Calls Tryz.prog 74 #[.pointer (some ⟨b, 0, none⟩), .slice A n cA, vi r] w (ThroughIs (els p xs) (el p r) w) := by
  have hp2 := F.max
  have HF := Lib.hid F
  have HS := Lib.hid hs
  have HX := Lib.hid hxs
  have HM := Lib.hid hml
  have hnd : (els p (upJ n)).Nodup := by rw [els, upJ, List.map_map]; exact small_nodup h23 n hn
  have HND := Lib.hid hnd
  clear F hs hxs hml hnd
  go_enter Tryz.func74, Tryz.ntmps74
  go_wp2
  go_loopw [7, 13] (fun v t wr => ∃ k : Nat, k ≤ n ∧ t = vi k ∧ Own wr w.heap.size v (upJ k) ∧ Below w.heap.size w wr) (fun _ t _ => n - (intOf t).toNat)
  case atStart => exact ⟨0, by omega, rfl, World.ownsRow_nil _ _ _ _, Below.refl _ _⟩
  case round =>
    obtain ⟨k, hk, rfl, ho, hb⟩ := hrel
    by_cases hkd : k < n
    · have k1 : (0 : Int) ≤ (k : Int) := by omega
      have k2 : (k : Int) < (n : Int) := by omega
      have hlk : (upJ k).length < 17592186044416 := by rw [upJ_len]; omega
      have HLK := Lib.hid hlk
      have HSU := Lib.hid (upJ_succ k)
      clear hlk
      go_wp2_with (at_builtin; refine wpList_app1 wr (k : Int) rfl _ _ rfl w.heap.size _ _ rfl rfl ho HLK.out hb.size ?_; intro v' w2 hg)
      have ho2 := hg.own
      rw [← HSU.out] at ho2
      exact ⟨⟨k + 1, by omega, by go_num, ho2, hg.below hb ho (Nat.le_refl _) hb.size⟩, by simp [intOf]; omega⟩
    · have ek : k = n := by omega
      subst ek
      obtain ⟨AX, nX, cX, rfl, hlX, _, _, hsX⟩ := ho.shapeN
      have hnX : nX = k := by rw [← hlX, upJ_len]
      subst hnX
      have hfit := Lib.hid (pfit_any p S b AX A nX cX cA (upJ nX) xs (upJ_len nX) HM.out (fun x hx => by obtain ⟨i, hi, rfl⟩ := List.mem_map.1 hx; rw [List.mem_range] at hi; constructor <;> omega) HX.out (by omega) HND.out wr (HF.out.below hb HF.out.le) hsX (HS.out.below hb))
      go_wp2_with fail
      refine (hfit.out).mono ?_
      rintro _ w3 ⟨Q, v, hQ, rfl, hoQ, hbQ⟩
      obtain ⟨AQ, nQ, cQ, rfl, hlQ, _, _, hsQ⟩ := hoQ.shapeN
      have hb3 := hb.trans (hbQ.mono hb.size)
      have hev := Lib.hid (eval_nP p S b AQ nQ cQ (fvs Q) hlQ (i64_fvs Q hp2) (by have h1 := hQ.len; have h2 : (fvs Q).length = Q.length := (by simp); have h3 : (els p (upJ nX)).length = nX := (by simp [upJ_len]); omega) r hr w3 (HF.out.below hb3 HF.out.le) hsQ)
      rw [els_fvs] at hev
      go_wp2_with fail
      refine (hev.out).mono ?_
      rintro _ w4 ⟨rfl, hb4⟩
      go_wp2
      go_ret
      have e1 : els p (upJ nX) = (List.range (els p xs).length).map fun t => el p ((t : Nat) : Int) := by rw [els, els, upJ, List.map_map, List.length_map, HM.out]; rfl
      have e2 : (els p (upJ nX)).length = (els p xs).length := by rw [e1]; simp
      rw [e2, e1] at hQ
      exact ⟨Q, hQ, rfl, hb3.trans (hb4.mono hb3.size)⟩
end Go.Proofs.YteceghbjjnknbaaGreat
