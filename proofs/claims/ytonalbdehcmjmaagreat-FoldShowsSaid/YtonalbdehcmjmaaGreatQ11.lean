/- A bundle of texts: Ck8, Mf4, Mg. -/
import Derived.Test.YtonalbdehcmjmaaGreatQ10
import Derived.Test.YtonalbdehcmjmaaGreatQ05
import Derived.Test.YtonalbdehcmjmaaGreatQ07
/- The walk of fold.Check: roots are taken, Openings looked at, places followed. -/
set_option linter.unusedVariables false
namespace Go.Proofs.YtonalbdehcmjmaaGreat
open Go.RowKit Zp
/-- the table of rounds: its block holds what is said -/
structure Tab5 (w : World) (g base R : Nat) (cs : Array Value) (rv : Nat → Nat → Value) : Prop where
  low : base ≤ g
  blk : Blk w g 87 cs
  at_ : ∀ i j, i < R → j < 5 → cs[i * 5 + j]? = some (rv i j)
theorem newRs_at (Ds : Nat → Nat) : ∀ (R i j : Nat), i < R → j < 5 → (newRs Ds R)[i * 5 + j]? = (newR (Ds i))[j]? := by
  intro R
  induction R with
  | zero => intro i j h; omega
  | succ R ih =>
    intro i j hi hj
    have hlen : (newRs Ds R).length = R * 5 := by
      clear ih hi
      induction R with
      | zero => rfl
      | succ R ih => rw [newRs_succ, List.length_append, ih]; simp [newR]; omega
    rw [newRs_succ]
    by_cases h : i < R
    · rw [List.getElem?_append_left (by rw [hlen]; omega)]
      exact ih i j h hj
    · obtain rfl : i = R := by omega
      rw [List.getElem?_append_right (by rw [hlen]; omega), hlen]
      congr 1
      omega
/-- what the loop laid, as a table -/
theorem tab5_of {w : World} {base R : Nat} {A : Option Addr} {c : Nat} {Ds : Nat → Nat} (h : w.ownsRow base 87 5 (.slice A R c) R (newRs Ds R)) (hR : 0 < R) : ∃ g cs, A = some ⟨g, 0, none⟩ ∧ Tab5 w g base R cs fun i j => (newR (Ds i)).getD j (vi 0) := by
  rcases h.2 with ⟨e, h0⟩ | ⟨g, cap, cur, e, hb, hg, hn, hc, hs, ht⟩
  · omega
  · injection e with e1 e2 e3
    subst e1
    refine ⟨g, cur, rfl, hb, hg, fun i j hi hj => ?_⟩
    have h1 := newRs_at Ds R i j hi hj
    rw [← ht, List.getElem?_take, if_pos (by omega), Array.getElem?_toList] at h1
    rw [h1, List.getD_eq_getElem?_getD, List.getElem?_eq_getElem (by simp [newR]; omega), Option.getD_some]
/-- what was drawn is written into the first t rounds -/
def rv2 (p kk : Nat) [NeZero p] (D : List Int) (roots : List (List Int)) (Ds : Nat → Nat) (t i j : Nat) : Value := if j = 1 ∧ i < t then vi (drR p kk D roots i) else (newR (Ds i)).getD j (vi 0)
theorem Tab5.draw {p kk : Nat} [NeZero p] {D : List Int} {roots : List (List Int)} {Ds : Nat → Nat} {w : World} {g base R t : Nat} {cs : Array Value} (h : Tab5 w g base R cs (rv2 p kk D roots Ds t)) (ht : t < R) :
    Tab5 (w.setCell ⟨g, t * 5 + 1, none⟩ (vi (drR p kk D roots t))) g base R (cs.setIfInBounds (t * 5 + 1) (vi (drR p kk D roots t))) (rv2 p kk D roots Ds (t + 1)) := by
  refine ⟨h.low, Blk.set_ h.blk _ _, fun i j hi hj => ?_⟩
  have h1 := h.at_ t 1 ht (by omega)
  have hlt : t * 5 + 1 < cs.size := (Array.getElem?_eq_some_iff.1 h1).1
  by_cases e : i * 5 + j = t * 5 + 1
  · have e1 : i = t := by omega
    have e2 : j = 1 := by omega
    subst e1 e2
    rw [Array.getElem?_setIfInBounds_self_of_lt hlt]
    unfold rv2
    rw [if_pos ⟨rfl, by omega⟩]
  · rw [Array.getElem?_setIfInBounds_ne (by omega), h.at_ i j hi hj]
    unfold rv2
    congr 1
    by_cases hc : j = 1 ∧ i < t
    · rw [if_pos hc, if_pos ⟨hc.1, by omega⟩]
    · rw [if_neg hc, if_neg (fun h' => hc ⟨h'.1, by omega⟩)]
theorem growM_grown {w w1 wr : World} {c g : Nat} (hb : Below w.heap.size w w1) (h : GrowM w1 wr c g) (hg : w.heap.size ≤ g) : w.grownBy wr (some c) :=
  ⟨h.os.trans hb.os, h.tape.trans hb.tape, h.output.trans hb.output, Nat.le_trans hb.size h.size, fun x hx hne => (h.block x (Nat.lt_of_lt_of_le hx hb.size) (fun e => hne (by rw [e])) (by omega)).trans (hb.block x hx)⟩
theorem grown_below {w w' : World} {c : Nat} (h : w.grownBy w' (some c)) (hc : c ≤ w.heap.size) : Below c w w' :=
  ⟨h.os, h.tape, h.output, h.size, fun x hx => h.block x (by omega) (fun e => by injection e with e; omega)⟩
/-- an Opening of the table stays where it is, whatever the chain does -/
def OKeep (w : World) (c : Nat) (AO : Option Addr) (k : Nat) (o : OpnI) : Prop :=
  ∃ (ao : Addr) (A0 : Option Addr) (n0 c0 : Nat) (AR : Option Addr) (nR cR : Nat) (AN : Option Addr) (nN cN : Nat), AO = some ao ∧ ∀ w', w.grownBy w' (some c) → w'.cell? (ao.add (k * 3)) = some (.slice A0 n0 c0) ∧ w'.cell? ⟨(ao.add (k * 3)).block, (ao.add (k * 3)).off + 1, none⟩ = some (.slice AR nR cR) ∧ w'.cell? ⟨(ao.add (k * 3)).block, (ao.add (k * 3)).off + 2, none⟩ = some (.slice AN nN cN) ∧ OpnAt w' A0 n0 c0 o.l AR nR cR o.rs AN nN cN o.ns
/-- the table when u rounds were looked at -/
structure Tab7 (w wr : World) (c g base R : Nat) (cs : Array Value) (Ds : Nat → Nat) (dr : Nat → Int) (opens : List OpnI) (u : Nat) : Prop where
  low : base ≤ g
  blk : Blk wr g 87 cs
  sz : R * 5 ≤ cs.size
  p0 : ∀ i, i < R → cs[i * 5]? = some (.pointer (some ⟨Ds i, 0, none⟩))
  p1 : ∀ i, i < R → cs[i * 5 + 1]? = some (vi (dr i))
  op : ∀ i, i < u → ∃ (A0 : Option Addr) (n0 c0 : Nat) (AR : Option Addr) (nR cR : Nat) (AN : Option Addr) (nN cN : Nat), cs[i * 5 + 2]? = some (.slice A0 n0 c0) ∧ cs[i * 5 + 3]? = some (.slice AR nR cR) ∧ cs[i * 5 + 4]? = some (.slice AN nN cN) ∧ ∀ w', w.grownBy w' (some c) → OpnAt w' A0 n0 c0 (opnO opens i).l AR nR cR (opnO opens i).rs AN nN cN (opnO opens i).ns
theorem Tab5.seven {p kk : Nat} [NeZero p] {D : List Int} {roots : List (List Int)} {Ds : Nat → Nat} {w wr : World} {c g base R : Nat} {cs : Array Value} {opens : List OpnI} (h : Tab5 wr g base R cs (rv2 p kk D roots Ds R)) (hR : 0 < R) : Tab7 w wr c g base R cs Ds (drR p kk D roots) opens 0 := by
  refine ⟨h.low, h.blk, ?_, fun i hi => ?_, fun i hi => ?_, fun i hi => absurd hi (Nat.not_lt_zero _)⟩
  · have h1 := h.at_ (R - 1) 4 (by omega) (by omega)
    have := (Array.getElem?_eq_some_iff.1 h1).1
    omega
  · have h1 := h.at_ i 0 hi (by omega)
    unfold rv2 at h1
    rw [if_neg (by omega)] at h1
    exact h1
  · have h1 := h.at_ i 1 hi (by omega)
    unfold rv2 at h1
    rw [if_pos ⟨rfl, hi⟩] at h1
    exact h1
/-- an Opening is laid into round u -/
theorem Tab7.lay {w wr : World} {c g base R : Nat} {cs : Array Value} {Ds : Nat → Nat} {dr : Nat → Int} {opens : List OpnI} {u : Nat} (h : Tab7 w wr c g base R cs Ds dr opens u) (hu : u < R) {A0 : Option Addr} {n0 c0 : Nat} {AR : Option Addr} {nR cR : Nat} {AN : Option Addr} {nN cN : Nat}
    (ho : ∀ w', w.grownBy w' (some c) → OpnAt w' A0 n0 c0 (opnO opens u).l AR nR cR (opnO opens u).rs AN nN cN (opnO opens u).ns) :
    Tab7 w (((wr.setCell ⟨g, u * 5 + 2, none⟩ (.slice A0 n0 c0)).setCell ⟨g, u * 5 + 3, none⟩ (.slice AR nR cR)).setCell ⟨g, u * 5 + 4, none⟩ (.slice AN nN cN)) c g base R (((cs.setIfInBounds (u * 5 + 2) (.slice A0 n0 c0)).setIfInBounds (u * 5 + 3) (.slice AR nR cR)).setIfInBounds (u * 5 + 4) (.slice AN nN cN)) Ds dr opens (u + 1) := by
  have hsz := h.sz
  refine ⟨h.low, Blk.set_ (Blk.set_ (Blk.set_ h.blk _ _) _ _) _ _, by simpa using hsz, fun i hi => ?_, fun i hi => ?_, fun i hi => ?_⟩
  · rw [Array.getElem?_setIfInBounds_ne (by omega), Array.getElem?_setIfInBounds_ne (by omega), Array.getElem?_setIfInBounds_ne (by omega)]
    exact h.p0 i hi
  · rw [Array.getElem?_setIfInBounds_ne (by omega), Array.getElem?_setIfInBounds_ne (by omega), Array.getElem?_setIfInBounds_ne (by omega)]
    exact h.p1 i hi
  · by_cases e : i < u
    · obtain ⟨B0, m0, d0, BR, mR, dR, BN, mN, dN, e1, e2, e3, e4⟩ := h.op i e
      refine ⟨B0, m0, d0, BR, mR, dR, BN, mN, dN, ?_, ?_, ?_, e4⟩
      · rw [Array.getElem?_setIfInBounds_ne (by omega), Array.getElem?_setIfInBounds_ne (by omega), Array.getElem?_setIfInBounds_ne (by omega)]; exact e1
      · rw [Array.getElem?_setIfInBounds_ne (by omega), Array.getElem?_setIfInBounds_ne (by omega), Array.getElem?_setIfInBounds_ne (by omega)]; exact e2
      · rw [Array.getElem?_setIfInBounds_ne (by omega), Array.getElem?_setIfInBounds_ne (by omega), Array.getElem?_setIfInBounds_ne (by omega)]; exact e3
    · obtain rfl : i = u := by omega
      refine ⟨A0, n0, c0, AR, nR, cR, AN, nN, cN, ?_, ?_, ?_, ho⟩
      · rw [Array.getElem?_setIfInBounds_ne (by omega), Array.getElem?_setIfInBounds_ne (by omega), Array.getElem?_setIfInBounds_self_of_lt (by omega)]
      · rw [Array.getElem?_setIfInBounds_ne (by omega), Array.getElem?_setIfInBounds_self_of_lt (by simp; omega)]
      · rw [Array.getElem?_setIfInBounds_self_of_lt (by simp; omega)]
theorem Chn.keepT {w w' : World} {c sg g : Nat} {D : List Int} {cs : Array Value} (h : Chn w c sg D) (hB : Blk w g 87 cs) (hg : w.grownBy w' (some g)) (hne : c ≠ g) : Chn w' c sg D := by
  refine Chn.keepX h hg hne ?_
  obtain ⟨g', cg, t', cs', h1, h2, h3, _⟩ := id h
  exact ⟨g', cg, (Blk.cell h1 1).trans rfl, Blk.ne_ h2 hB (Dty.ne h3 (by decide) (by decide))⟩
theorem Chn.dom_ne {w : World} {c sg S Dx b p n : Nat} [NeZero p] {D : List Int} {s : Fin p} (h : Chn w c sg D) (hd : Dom w S Dx b p n s) : Dx ≠ c := by
  rintro rfl
  obtain ⟨g', cg, t', cs', h1, _⟩ := id h
  have e1 := (Blk.cell h1 1).trans (show _ = some (.slice (some ⟨g', 0, none⟩) 4 cg) from rfl)
  rw [hd.c1] at e1
  injection e1 with e1
  cases e1
theorem SL.keepG {w w' : World} {A : Option Addr} {xs : List Int} {g : Nat} (hs : SL w A xs) (hG : GrowM w w' g g) (hne : ∀ ad, A = some ad → ad.block ≠ g) : SL w' A xs := by
  refine ⟨hs.1, fun hn => ?_⟩
  obtain ⟨ad, e, hb, hcell⟩ := hs.2 hn
  refine ⟨ad, e, Nat.lt_of_lt_of_le hb hG.size, fun j u hu => ?_⟩
  rw [← hcell j u hu]
  exact World.cell?_of_block (hG.block _ (by rw [block_of_add]; exact hb) (by rw [block_of_add]; exact hne ad e) (by rw [block_of_add]; exact hne ad e))
set_option maxRecDepth 100000 in
set_option maxHeartbeats 1000000 in
theorem check1_any (x : Int) (B14 B15 B11 Dt : Nat) (A2 : Option Addr) (t c2 : Nat) (AL : Option Addr) (nL cL : Nat) (gb : Bool) (W : World) (h14 : W.cell? ⟨B14, 0, none⟩ = some (.slice A2 t c2)) (h15 : W.cell? ⟨B15, 0, none⟩ = some (.pointer (some ⟨Dt, 0, none⟩))) (h11 : W.cell? ⟨B11, 1, none⟩ = some (.slice AL nL cL))
    (hF : Calls Tryz.prog 43 #[.slice A2 t c2, .pointer (some ⟨Dt, 0, none⟩), .slice AL nL cL, vi x] W fun e w' => SaysW (.bool gb) W e w') :
    Calls Tryz.prog 42 #[vi x, .pointer (some ⟨B14, 0, none⟩), .pointer (some ⟨B15, 0, none⟩), .pointer (some ⟨B11, 0, none⟩)] W (SaysW (.bool (!gb)) W) := by
  have HF := Lib.hid hF
  clear hF
  go_enter Tryz.func42, Tryz.ntmps42
  go_wp2_with fail
  refine HF.out.mono ?_
  rintro _ w1 ⟨rfl, hb1⟩
  go_wp2
  go_ret
  exact ⟨rfl, hb1⟩
theorem Tab7.rnd {w wr W : World} {c g base R : Nat} {cs : Array Value} {Ds : Nat → Nat} {dr : Nat → Int} {opens : List OpnI} (h : Tab7 w wr c g base R cs Ds dr opens R) (hb : Below wr.heap.size wr W) (hg : w.grownBy W (some c)) {i : Nat} (hi : i < R) : RndE W ⟨g, 0, none⟩ i (Ds i) (dr i) (opnO opens i) := by
  have hB := Blk.below h.blk hb h.blk.lt
  obtain ⟨A0, n0, c0, AR, nR, cR, AN, nN, cN, e2, e3, e4, hop⟩ := h.op i hi
  have ea : ∀ n, (⟨g, 0, none⟩ : Addr).add n = ⟨g, n, none⟩ := fun n => by
    unfold Addr.add
    split
    · rename_i h0; subst h0; rfl
    · simp
  refine ⟨A0, n0, c0, AR, nR, cR, AN, nN, cN, ?_, ?_, ?_, ?_, ?_, hop W hg⟩
  · rw [ea]; exact (hB.cell _).trans (h.p0 i hi)
  · rw [ea]; exact (hB.cell _).trans (h.p1 i hi)
  · rw [ea]; exact (hB.cell _).trans e2
  · rw [ea]; exact (hB.cell _).trans e3
  · rw [ea]; exact (hB.cell _).trans e4
/-- what a check comes to, with a chain that grows -/
def CkP (p kk c sg : Nat) [NeZero p] (s : Fin p) (e j : Nat) (f : FldI) (D : List Int) (a : Nat) (w : World) (ee : Ending) (w' : World) : Prop :=
  CkIs (okO p kk s e j f D a) (if okO p kk s e j f D a then placesL p kk (dgL p kk D f.roots f.last) ((nI e 1 : Nat) : Int) a else []) w ee w' ∧ Chn w' c sg (iterP p kk (dgL p kk D f.roots f.last) a) ∧ w.grownBy w' (some c)
set_option maxRecDepth 100000 in
set_option maxHeartbeats 4000000 in
theorem fck_yes (p : Nat) [NeZero p] (S1 b1 sg kk z : Nat) (oo : Nat → Nat → Fin p) (c : Nat) (D : List Int) (Dd b2 S2 : Nat) (s : Fin p) (e j : Nat) (he : e ≤ 16) (hje : j + 1 ≤ e) (hj16 : j ≤ 16) (a : Nat) (ha1 : 1 ≤ a) (ha2 : a ≤ 64) (hmay : fmayB (nI e 0) ((nI j 0 : Nat) : Int) (a : Int) = true) (f : FldI)
    {AR : Option Addr} {nR cR : Nat} {AL : Option Addr} {nL cL : Nat} {AO : Option Addr} {nO cO : Nat} (hyes : f.roots.length = rndK j)
    (w : World) (F : Fld w S1 b1 p) (G : Spg w sg b1 kk z oo) (hS1 : S1 ≤ c) (hsc : sg < c) (hC : Chn w c sg D) (hd : Dom w S2 Dd b2 p (nI e 0) (sqI s 0)) (hS2 : S2 ≤ c) (hO : ∀ w', w.grownBy w' (some c) → FAt w' AR nR cR AL nL cL AO nO cO f) (hOE : ∀ k, k < f.opens.length → OKeep w c AO k (opnO f.opens k)) :
    Calls Tryz.prog 10 #[.pointer (some ⟨sg, 0, none⟩), .pointer (some ⟨c, 0, none⟩), .pointer (some ⟨Dd, 0, none⟩), vi ((nI j 0 : Nat) : Int), vi (a : Int), .agg #[.slice AR nR cR, .slice AL nL cL, .slice AO nO cO]] w (CkP p kk c sg s e j f D a w) := by
  have HF0 := Lib.hid (hO w (World.grownBy.refl w _))
  have HO := Lib.hid hO
  have HOE := Lib.hid hOE
  have HFS := Lib.hid F
  have HGS := Lib.hid G
  have HCS := Lib.hid hC
  have HAA := Lib.hid (And.intro ha1 ha2)
  have HSS := Lib.hid (And.intro hS1 (And.intro hsc hS2))
  clear hO hOE F G hC ha1 ha2 hS1 hsc hS2
  have hd1 := hd.c1
  have hFd := hd.fld
  obtain ⟨W0, hW0⟩ : ∃ W0, W0 = w.alloc (.cells #[.slice AR nR cR, .slice AL nL cL, .slice AO nO cO] 40) := ⟨_, rfl⟩
  obtain ⟨W, hW⟩ : ∃ W, W = (W0.alloc (.cells #[.slice none 0 0] 85)).alloc (.cells #[.pointer (some ⟨Dd, 0, none⟩)] 25) := ⟨_, rfl⟩
  have hL0 : Laid5 w W p b2 e s Dd #[.slice AR nR cR, .slice AL nL cL, .slice AO nO cO] 0 (fun _ => Dd) (.slice none 0 0) := by
    rw [hW, hW0]
    exact laid5_zero _ hd
  have hb0 := below_of_eq hW0
  have hf := fmay_any Dd (nI e 0) ((nI j 0 : Nat) : Int) (a : Int) (by have := nI_le hj16 0; constructor <;> omega) (nI_le he 0) W0 ((hb0.cell (p := ⟨Dd, 1, none⟩) (block_lt_of_cell hd1)).trans hd1)
  rw [hmay] at hf
  have HMAY := Lib.hid hf
  have HZ0 : Hid (W0.heap.size = w.heap.size + 1) := Lib.hid (by rw [hW0]; simp)
  have HW0 := Lib.hid hW0
  have HW := Lib.hid hW
  have HL0 := Lib.hid hL0
  have HFD := Lib.hid hFd
  clear hf hW0 hW hL0 hb0 hd1 hFd hmay
  go_enter Tryz.func10, Tryz.ntmps10
  go_upto_region 1 with (fail)
  rw [← HW0.out]
  go_wp2_with fail
  refine HMAY.out.mono ?_
  rintro _ _ ⟨rfl, rfl⟩
  go_upto_region 5 with (fail)
  rw [← HW.out]
  (try rw [show W0.heap.size + 1 = w.heap.size + 2 by rw [HZ0.out]])
  rw [HZ0.out]
  go_wp2
  go_loopw [3] (fun k wr => ∃ (t : Nat) (Ds : Nat → Nat) (v : Value), t ≤ rndK j ∧ k = vi ((nI j t : Nat) : Int) ∧ Laid5 w wr p b2 e s Dd #[.slice AR nR cR, .slice AL nL cL, .slice AO nO cO] t Ds v) (fun k _ => (intOf k).toNat)
  case atStart => exact ⟨0, _, _, Nat.zero_le _, rfl, HL0.out⟩
  case round =>
    obtain ⟨t, Ds, v, ht, rfl, hL⟩ := hrel
    by_cases hlt : t < rndK j
    · have htj : t < j := by unfold rndK at hlt; omega
      have hte : t < e := by omega
      have t1 : decide ((4 : Int) < ((nI j t : Nat) : Int)) = true := decide_eq_true (by have := four_lt.2 hlt; omega)
      have hst : nI j t = 2 * nI j (t + 1) := nI_step htj
      have hpos := nI_pos j (t + 1)
      have hq : wrap64 (((nI j t : Nat) : Int) / 2) = ((nI j (t + 1) : Nat) : Int) := half_wrap hst (nI_le hj16 t)
      have HMS : Hid (nI j (t + 1) < nI j t) := Lib.hid (by omega)
      have HL := Lib.hid hL
      have v0 := (hL.bv.cell 0).trans (show _ = some v from rfl)
      have a0 := (hL.ba.cell 0).trans (show _ = some (.pointer (some ⟨Ds t, 0, none⟩)) from rfl)
      have hown := hL.own
      have HLT := Lib.hid hlt
      have ht64 : t ≤ 64 := by omega
      clear hst hpos hL hlt
      go_upto_region 8 with (at_builtin; refine wpList_appS 85 87 _ 5 88 Tryz.underlying85 info_round (by rfl) (by omega) wr _ (newR (Ds t)) (by rfl) (by rfl) (newR_one _) (by rfl) _ _ (by rfl) (w.heap.size + 3) v t (newRs Ds t) (by rfl) (by rfl) HL.out.own (by simp only [maxLen]; omega) (by omega) (by have := HL.out.ba.lt; omega) ?_; intro v2 w2 h1 h2 h3; have hne2 : some (w.heap.size + 1) ≠ v.ownBlock := (fun hg => by have := (World.ownsRow.lt HL.out.own _ hg.symm).1; omega); have hB2 := Blk.grown HL.out.bv h2 hne2; have y1 := (hB2.cell 0).trans (show _ = some v from rfl); have y2 := hB2.frozen 0; obtain ⟨A2, c2, hv2⟩ := row_slice h1; subst hv2)
      have hst := HL.out.step HFD.out h1 h2 h3
      obtain ⟨w3, hw3⟩ : ∃ w3, w3 = w2.setCell ⟨w.heap.size + 1, 0, none⟩ (.slice A2 (t + 1) c2) := ⟨_, rfl⟩
      simp only at hst
      rw [← hw3] at hst ⊢
      have HST := Lib.hid hst
      have hb3 := hst.2.2.1
      have hd3 := (hst.2.2.2.2.2 t (Nat.le_refl _)).1
      have HH := Lib.hid (half_any p w3.heap.size (Ds t) b2 (nI e t) (nI e (t + 1)) (nI_step hte) (nI_pos _ _) (sqI s t) w3 hd3)
      clear hst hw3 h1 h2 h3 hB2 hne2 y1 y2 v0 a0 hown hd3
      have a0 := (hb3.cell 0).trans (show _ = some (.pointer (some ⟨Ds t, 0, none⟩)) from rfl)
      have HB3 := Lib.hid hb3
      clear hb3
      go_wp2_with fail
      refine HH.out.mono ?_
      rintro _ w4 ⟨D', rfl, hD', hb4, hle⟩
      have hB4 := Blk.below HB3.out hb4 HB3.out.lt
      have y1 := (hB4.cell 0).trans (show _ = some (.pointer (some ⟨Ds t, 0, none⟩)) from rfl)
      have y2 := hB4.frozen 0
      rw [el_fv] at hD'
      have HNX := Lib.hid (Laid5.next HFD.out HL.out.d0 HST.out hD' hb4 hle)
      clear hD' hb4 hle a0 hB4
      go_wp2
      go_roundw
      case rel => exact ⟨t + 1, _, _, Nat.succ_le_of_lt HLT.out, by first | rfl | (rw [hq]), HNX.out⟩
      case measure =>
        rw [hq]
        show Int.toNat ((nI j (t + 1) : Nat) : Int) < Int.toNat ((nI j t : Nat) : Int)
        rw [Int.toNat_natCast, Int.toNat_natCast]
        exact HMS.out
    · have t1 : decide ((4 : Int) < ((nI j t : Nat) : Int)) = false := decide_eq_false (by have h4 : ¬ 4 < nI j t := fun h => hlt (four_lt.1 h); omega)
      have et : t = rndK j := by omega
      obtain ⟨A2, c2, rfl⟩ := row_slice hL.own
      have eR : nR = t := by rw [← HF0.out.lR, hyes, et]
      subst eR
      have t2 : ((nR : Int) != (nR : Int)) = false := by simp
      have v0 := (hL.bv.cell 0).trans (show _ = some (.slice A2 nR c2) from rfl)
      have f0 := (hL.bo.cell 0).trans (show _ = some (.slice AR nR cR) from rfl)
      have HL := Lib.hid hL
      have HR := Lib.hid et
      have HYES := Lib.hid (show f.roots.length = nR by rw [hyes, et])
      clear hL et ht hlt hyes
      have HOWN : Hid (∃ g cs0, w.heap.size + 3 ≤ g ∧ (0 < nR → A2 = some ⟨g, 0, none⟩ ∧ Tab5 wr g (w.heap.size + 3) nR cs0 (rv2 p kk D f.roots Ds 0)) ∧ ∀ i, i ≤ nR → Ds i ≠ g) := Lib.hid (by
        rcases Nat.eq_zero_or_pos nR with h0 | h0
        · refine ⟨w.heap.size + 3, #[], Nat.le_refl _, fun h => absurd h (by omega), fun i hi => ?_⟩
          obtain rfl : i = 0 := by omega
          rw [HL.out.d0]
          have := hd.lt
          have := hd.fld.le
          omega
        · obtain ⟨g, cs, e1, e2⟩ := tab5_of HL.out.own h0
          refine ⟨g, cs, e2.low, fun _ => ⟨e1, ?_⟩, fun i hi e3 => ?_⟩
          · have : rv2 p kk D f.roots Ds 0 = fun i j => (newR (Ds i)).getD j (vi 0) := by
              funext i j
              unfold rv2
              rw [if_neg (by omega)]
            rw [this]; exact e2
          · exact (HL.out.dom i hi).2.2 (by rw [e1, e3]; rfl))
      obtain ⟨g, cs0, hgl, hT0, hDg⟩ := HOWN.out
      have HGL := Lib.hid hgl
      have HT0 := Lib.hid hT0
      have HDG := Lib.hid hDg
      have HCW := Lib.hid HCS.out.lt
      clear HOWN hgl hT0 hDg
      obtain ⟨w1, hw1⟩ : ∃ w1, w1 = wr := ⟨_, rfl⟩
      rw [← hw1] at HL HT0 v0 f0 ⊢
      clear hw1
      have HC1 := Lib.hid (show Chn w1 c sg (dgR p kk D f.roots 0) from HCS.out.below HL.out.bel)
      go_wp2
      go_loopw [49] (fun i wr => ∃ (t : Nat) (cs : Array Value), t ≤ nR ∧ i = vi t ∧ (0 < nR → Tab5 wr g (w.heap.size + 3) nR cs (rv2 p kk D f.roots Ds t)) ∧ Chn wr c sg (dgR p kk D f.roots t) ∧ GrowM w1 wr c g) (fun i _ => nR - (intOf i).toNat)
      case atStart => exact ⟨0, cs0, Nat.zero_le _, rfl, fun h => (HT0.out h).2, HC1.out, GrowM.refl _ _ _⟩
      case round =>
        obtain ⟨t, cs, ht, rfl, hT, hC, hG⟩ := hrel
        have hgw := growM_grown HL.out.bel hG (by have := HGL.out; omega)
        have HGW := Lib.hid hgw
        have HGM := Lib.hid hG
        have hbc := grown_below hgw (Nat.le_of_lt HCW.out)
        have HBC := Lib.hid hbc
        have HCT := Lib.hid hC
        have HTT := Lib.hid hT
        clear hgw hG hbc hC hT v0 f0
        by_cases hlt : t < nR
        · have HFX := Lib.hid (HO.out _ HGW.out)
          have htl : t < f.roots.length := by rw [HYES.out]; exact hlt
          obtain ⟨ar, A1, n1, c1, rfl, hb1, hc1, hl1, hn1, hs1, hi1⟩ := HFX.out.tR t htl
          have hr8 := HFX.out.rR _ (List.getElem_mem htl)
          have i1 : (0 : Int) ≤ (t : Int) := by omega
          have i2 : (t : Int) < (nR : Int) := by omega
          have hwt : IntKind.i64.wrap ((t : Int) + 1) = (t : Int) + 1 := step_wrap (by have := HR.out; unfold rndK at this; omega)
          obtain ⟨rfl, hTb⟩ : A2 = some ⟨g, 0, none⟩ ∧ True := ⟨(HT0.out (by omega)).1, trivial⟩
          have HTK := Lib.hid (chtake_any p S1 b1 sg kk z c oo _ A1 n1 c1 f.roots[t] hl1 hi1 (by rw [← hl1]; exact hr8) wr (HFS.out.below HBC.out HSS.out.1) (HGS.out.below HBC.out HSS.out.2.1) HSS.out.1 HSS.out.2.1 HCT.out hs1)
          clear hb1 hl1 hn1 hs1 hi1 hr8
          go_wp2_with fail
          refine HTK.out.mono ?_
          rintro _ w2 ⟨⟨r2, rfl⟩, hm2, hg2, _⟩
          have HM2 := Lib.hid hm2
          have HG2 := Lib.hid hg2
          have hdd : dgR p kk D f.roots (t + 1) = drawnL p kk (digL p kk (3 :: (dgR p kk D f.roots t ++ f.roots[t]))) := by
            show drawnL p kk (digL p kk (3 :: (dgR p kk D f.roots t ++ f.roots.getD t []))) = _
            rw [List.getD_eq_getElem?_getD, List.getElem?_eq_getElem htl, Option.getD_some]
          have hdr : drR p kk D f.roots t = (drawnL p kk (digL p kk (3 :: (dgR p kk D f.roots t ++ f.roots[t])))).getD 0 0 := by unfold drR; rw [hdd]
          have HDD := Lib.hid (And.intro hdd hdr)
          clear hm2 hg2 hdd hdr
          have HGW2 := Lib.hid (grownBy_trans HGW.out HG2.out)
          have HBC2 := Lib.hid (grown_below HGW2.out (Nat.le_of_lt HCW.out))
          have hbd : Below w2.heap.size w2 w2.drew := below_drewN (Below.refl _ _) 1
          have HDW := Lib.hid (chdraw_any p S1 b1 sg kk z c oo _ w2.drew ((HFS.out.below HBC2.out HSS.out.1).below hbd (HFS.out.below HBC2.out HSS.out.1).le) ((HGS.out.below HBC2.out HSS.out.2.1).below hbd (block_lt_of_cell (HGS.out.below HBC2.out HSS.out.2.1).c0)) HSS.out.1 HSS.out.2.1 (HM2.out.below hbd))
          have KS : Hid (∀ W', GrowM w1 W' c g → W'.cell? ⟨w.heap.size + 1, 0, none⟩ = some (.slice (some ⟨g, 0, none⟩) nR c2)) := Lib.hid fun W' h => by
            have hb1 : Blk W' (w.heap.size + 1) 85 #[.slice (some ⟨g, 0, none⟩) nR c2] := (h.block _ HL.out.bv.lt (by have := HCW.out; omega) (by have := HGL.out; omega)).trans HL.out.bv
            exact (hb1.cell 0).trans rfl
          have kk2 : GrowM w1 w2.drew c g := (HGM.out.trans (GrowM.one HG2.out)).trans (GrowM.of hbd)
          have hlt' := hlt
          clear hlt
          go_wp2_with fail
          refine wp_region_held_drew (S := fun W' => W'.cell? ⟨w.heap.size + 1, 0, none⟩ = some (.slice (some ⟨g, 0, none⟩) nR c2)) (by kernel_rfl) (KS.out _ kk2) (fun hHeld => ?_)
          refine wpAnyH_take_at (i := 0) rfl rfl (by kernel_rfl) (by kernel_rfl) (by kernel_rfl) (fun _ _ _ h => h) (Or.inl ⟨by rfl, by (intro w hSw; (try dsimp only at hSw); go_simp; try with_reducible rfl)⟩) (by assumption) ?_
          (try simp only [Act.put, List.setIfInBounds_toArray, List.set_cons_zero, List.set_cons_succ])
          refine wpAnyH_take_at (i := 1) rfl rfl (by kernel_rfl) (by kernel_rfl) (by kernel_rfl) (fun _ _ _ h => h) (Or.inl ⟨by rfl, by (intro w hSw; (try dsimp only at hSw); go_simp; try with_reducible rfl)⟩) (by assumption) ?_
          (try simp only [Act.put, List.setIfInBounds_toArray, List.set_cons_zero, List.set_cons_succ])
          refine wpAnyH_take_at (i := 2) rfl rfl (by kernel_rfl) (by kernel_rfl) (by kernel_rfl) (fun _ _ _ h => h) (Or.inl ⟨by rfl, by (intro w hSw; (try dsimp only at hSw); go_simp; try with_reducible rfl)⟩) (by assumption) ?_
          (try simp only [Act.put, List.setIfInBounds_toArray, List.set_cons_zero, List.set_cons_succ])
          refine wpAnyH_ready (rs := [3]) (by kernel_rfl) (by simp) ?_
          refine AllReadyH.cons rfl (fun K hK => ?_) AllReadyH.nil
          go_simp
          refine HDW.out.mono ?_
          rintro _ w3 ⟨rfl, hm3, hg3, hn3⟩
          rw [← HDD.out.2]
          have kk3 : GrowM w1 w3 c g := kk2.trans (GrowM.one hg3)
          have hgc : some g ≠ some c := fun e => by injection e with e; have := HCW.out; have := HGL.out; omega
          have hT3 : Tab5 w3 g (w.heap.size + 3) nR cs (rv2 p kk D f.roots Ds t) := by
            have h0 := HTT.out (by omega)
            have q1 := Blk.grown h0.blk HG2.out hgc
            exact ⟨h0.low, Blk.grown (show Blk w2.drew g 87 cs from q1) hg3 hgc, h0.at_⟩
          have hc31 : w3.cell? ⟨g, t * 5 + 1, none⟩ = some (vi 0) := by
            rw [hT3.blk.cell, hT3.at_ t 1 hlt' (by omega)]
            unfold rv2
            rw [if_neg (by omega)]
            rfl
          have hf31 := hT3.blk.frozen (t * 5 + 1)
          obtain ⟨w4, hw4⟩ : ∃ w4, w4 = w3.setCell ⟨g, t * 5 + 1, none⟩ (vi (drR p kk D f.roots t)) := ⟨_, rfl⟩
          have hT4 := hT3.draw hlt'
          rw [← hw4] at hT4
          have hg4 : w3.grownBy w4 (some g) := by rw [hw4]; exact blk_grown
          have kk4 : GrowM w1 w4 c g := kk3.trans (GrowM.two hg4)
          refine hK.out _ _ (by (first | exact KS.out _ (by assumption) | (simp only [Act.put]; exact KS.out _ (by assumption)))) (fun hHeld => ?_)
          clear hK K
          (try simp only [Act.put, List.setIfInBounds_toArray, List.set_cons_zero, List.set_cons_succ])
          refine wpAnyH_take_at (i := 4) rfl rfl (by kernel_rfl) (by kernel_rfl) (by kernel_rfl) (fun _ _ _ h => h) (Or.inl ⟨by rfl, by (intro w hSw; (try dsimp only at hSw); go_simp; try with_reducible rfl)⟩) (by assumption) ?_
          (try simp only [Act.put, List.setIfInBounds_toArray, List.set_cons_zero, List.set_cons_succ])
          refine wpAnyH_take_at (i := 5) rfl rfl (by kernel_rfl) (by kernel_rfl) (by kernel_rfl) (fun _ _ _ h => h) (Or.inl ⟨by rfl, by (intro w hSw; (try dsimp only at hSw); go_simp; try with_reducible rfl)⟩) (by assumption) ?_
          (try simp only [Act.put, List.setIfInBounds_toArray, List.set_cons_zero, List.set_cons_succ])
          refine wpAnyH_ready (rs := [6]) (by kernel_rfl) (by simp) ?_
          refine AllReadyH.cons rfl (fun K hK => ?_) AllReadyH.nil
          go_simp
          rw [← hw4]
          refine hK.out _ _ (KS.out _ kk4) (fun hHeld => ?_)
          clear hK K
          (try simp only [Act.put, List.setIfInBounds_toArray, List.set_cons_zero, List.set_cons_succ])
          refine wpAnyH_done (by kernel_rfl) ?_ _
          have hne3 : ∀ g' cap', w3.cell? ⟨c, 1, none⟩ = some (.slice (some ⟨g', 0, none⟩) 4 cap') → some g' ≠ some g := fun g' cap' hc' e => by
            obtain ⟨g2, cap2, hc2, hlt2⟩ := hn3
            rw [hc2] at hc'
            injection hc' with hc'
            injection hc' with e1 _ _
            injection e1 with e1
            injection e1 with e1 _ _
            injection e with e
            have := (HTT.out (by omega)).blk.lt
            have := HG2.out.size
            have : w2.drew.heap.size = w2.heap.size := rfl
            omega
          have HC4 : Hid (Chn w4 c sg (dgR p kk D f.roots (t + 1))) := Lib.hid (by
            rw [HDD.out.1]
            refine Chn.keepX hm3 hg4 (fun e => hgc (by rw [e])) ?_
            obtain ⟨g2, cap2, hc2, hlt2⟩ := hn3
            exact ⟨g2, cap2, hc2, fun e => hne3 g2 cap2 hc2 (by rw [e])⟩)
          have HK4 := Lib.hid kk4
          have HT4 := Lib.hid hT4
          clear hHeld KS kk2 kk3 kk4 hT3 hT4 hc31 hf31 hw4 hg4 hne3 hm3 hg3 hn3 hgc hbd
          go_wp2
          go_roundw
          case rel => exact ⟨t + 1, _, Nat.succ_le_of_lt hlt', by go_num, fun _ => HT4.out, HC4.out, HK4.out⟩
          case measure => simp [intOf]; omega
        · have et : t = nR := by omega
          subst et
          have HFX := Lib.hid (HO.out _ HGW.out)
          have edg : digL p kk (3 :: (dgR p kk D f.roots t ++ f.last)) = dgL p kk D f.roots f.last := by unfold dgL; rw [HYES.out]
          have htk := chtake_any p S1 b1 sg kk z c oo _ AL nL cL f.last HFX.out.lL HFX.out.iL HFX.out.bL wr (HFS.out.below HBC.out HSS.out.1) (HGS.out.below HBC.out HSS.out.2.1) HSS.out.1 HSS.out.2.1 HCT.out HFX.out.sL
          rw [edg] at htk
          obtain ⟨D2, hD2⟩ : ∃ D2, D2 = dgL p kk D f.roots f.last := ⟨_, rfl⟩
          rw [← hD2] at htk
          have HTK := Lib.hid htk
          have HD2 := Lib.hid hD2
          have hbo : Blk wr w.heap.size 40 #[.slice AR t cR, .slice AL nL cL, .slice AO nO cO] := (HGM.out.block _ HL.out.bo.lt (by have := HCW.out; omega) (by have := HGL.out; omega)).trans HL.out.bo
          have f1 := (hbo.cell 1).trans (show _ = some (.slice AL nL cL) from rfl)
          have HNN := Lib.hid (And.intro ht hlt)
          clear edg htk hD2 hbo ht hlt t2
          go_wp2_with fail
          refine HTK.out.mono ?_
          rintro _ w2 ⟨⟨r2, rfl⟩, hm2, hg2, _⟩
          have HM2 := Lib.hid hm2
          have HG2 := Lib.hid hg2
          have HGW2 := Lib.hid (grownBy_trans HGW.out hg2)
          have HBC2 := Lib.hid (grown_below HGW2.out (Nat.le_of_lt HCW.out))
          have HGM2 := Lib.hid (HGM.out.trans (GrowM.one hg2))
          have hD2d := hd.below HBC2.out HSS.out.2.2
          have HSZ := Lib.hid (size_any Dd (nI e 0) w2 hD2d.c1)
          have hq : wrap64 (((nI e 0 : Nat) : Int) / 2) = ((nI e 1 : Nat) : Int) := half_wrap (nI_step (by omega)) (nI_le he 0)
          have HDR := Lib.hid (drawn_any p S1 b1 sg kk z c oo D2 ((nI e 1 : Nat) : Int) (by have := nI_pos e 1; omega) (by have := nI_le he 1; omega) a HAA.out.1 (by have := HAA.out.2; omega) w2 (HFS.out.below HBC2.out HSS.out.1) (HGS.out.below HBC2.out HSS.out.2.1) HSS.out.1 HSS.out.2.1 hm2)
          clear hm2 hg2 hD2d f1
          go_wp2_with fail
          refine HSZ.out.mono ?_
          rintro _ _ ⟨rfl, rfl⟩
          go_wp2_with fail
          refine HDR.out.mono ?_
          rintro _ w3 ⟨v3, rfl, ho3, hm3, hg3⟩
          obtain ⟨A3, n3, c3, rfl, hl3, _, _, hs3⟩ := ho3.shapeN
          obtain ⟨asks, hasks⟩ : ∃ l, l = placesL p kk D2 ((nI e 1 : Nat) : Int) a := ⟨_, rfl⟩
          have hin := placesL_in p kk D2 ((nI e 1 : Nat) : Int) a (by have := nI_pos e 1; omega)
          rw [← hasks] at hl3 hs3 hin
          obtain rfl : n3 = a := by rw [← hl3, hasks, placesL_len]
          have HA3 : Hid (∀ ad, A3 = some ad → w.heap.size ≤ ad.block) := Lib.hid fun ad e1 => by
            have h1 := (World.ownsRow.lt ho3 ad.block (by rw [e1]; rfl)).1
            have h2 := HGW2.out.size
            omega
          have HAG : Hid (0 < t → ∀ ad, A3 = some ad → ad.block ≠ g) := Lib.hid fun h ad e1 e2 => by
            have h1 := (World.ownsRow.lt ho3 g (by rw [e1, ← e2]; rfl)).1
            have h2 := (HTT.out h).blk.lt
            have := HG2.out.size
            omega
          have HAS := Lib.hid hasks
          have HAL := Lib.hid (And.intro hl3 (And.intro hs3 hin))
          have HM3 := Lib.hid hm3
          have HGW3 := Lib.hid (grownBy_trans HGW2.out hg3)
          have HBC3 := Lib.hid (grown_below HGW3.out (Nat.le_of_lt HCW.out))
          have HGM3 := Lib.hid (HGM2.out.trans (GrowM.one hg3))
          have HF3 := Lib.hid (HO.out _ HGW3.out)
          have hgc : some g ≠ some c := fun e => by injection e with e; have := HCW.out; have := HGL.out; omega
          have HT3 : Hid (0 < t → Tab5 w3 g (w.heap.size + 3) t cs (rv2 p kk D f.roots Ds t)) := Lib.hid fun h => by
            have h0 := HTT.out h
            exact ⟨h0.low, Blk.grown (Blk.grown h0.blk HG2.out hgc) hg3 hgc, h0.at_⟩
          have hB11 : Blk w3 w.heap.size 40 #[.slice AR t cR, .slice AL nL cL, .slice AO nO cO] := (HGM3.out.block _ HL.out.bo.lt (by have := HCW.out; omega) (by have := HGL.out; omega)).trans HL.out.bo
          have hB14 : Blk w3 (w.heap.size + 1) 85 #[.slice A2 t c2] := (HGM3.out.block _ HL.out.bv.lt (by have := HCW.out; omega) (by have := HGL.out; omega)).trans HL.out.bv
          have hB15 : Blk w3 (w.heap.size + 2) 25 #[.pointer (some ⟨Ds t, 0, none⟩)] := (HGM3.out.block _ HL.out.ba.lt (by have := HCW.out; omega) (by have := HGL.out; omega)).trans HL.out.ba
          have HB11 := Lib.hid hB11
          have HB14 := Lib.hid hB14
          have HB15 := Lib.hid hB15
          have f1 := (hB11.cell 1).trans (show _ = some (.slice AL nL cL) from rfl)
          have f2 := (hB11.cell 2).trans (show _ = some (.slice AO nO cO) from rfl)
          have v0 := (hB14.cell 0).trans (show _ = some (.slice A2 t c2) from rfl)
          have hD3 := hd.below HBC3.out HSS.out.2.2
          obtain ⟨dg, hdg⟩ : ∃ dg, dg = degL (els p f.last) := ⟨_, rfl⟩
          have HDF : Hid (∀ q, Calls Tryz.prog 25 #[.pointer (some ⟨Dd, 0, none⟩)] (w3.drewN q) fun e w' => e = .returned (.pointer (some ⟨b2, 0, none⟩)) ∧ ∃ k, w' = w3.drewN k) := Lib.hid fun q => (dfield_any Dd b2 (w3.drewN q) hD3.c0).mono fun e w' h => ⟨h.1, q, h.2.symm⟩
          have HDGR : Hid (∀ q, Calls Tryz.prog 24 #[.pointer (some ⟨b2, 0, none⟩), .slice AL nL cL] (w3.drewN q) fun e w' => e = .returned (vi dg) ∧ ∃ k, w' = w3.drewN k) := Lib.hid fun q => by
            have h1 := degree_any p hD3.fld.max b2 AL cL f.last HF3.out.iL (by rw [HF3.out.lL]; have := HF3.out.bL; omega) (w3.drewN q) hD3.fld.c0 HF3.out.sL
            rw [HF3.out.lL, ← hdg] at h1
            exact h1.mono fun e w' h => ⟨h.1, q, h.2.symm⟩
          have HDGE := Lib.hid hdg
          have HFAIL : Hid (∀ w4, Below w3.heap.size w3 w4 → okO p kk s e j f D n3 = false → CkP p kk c sg s e j f D n3 w (.returned (.tuple #[.slice none 0 0, .bool false])) w4) := Lib.hid fun w4 hb h => by
            unfold CkP
            rw [h, ← HD2.out]
            exact ⟨CkIs.no _ _, HM3.out.below hb, grownBy_trans HGW3.out (grown_of_below hb (some c))⟩
          clear ho3 hm3 hg3 hl3 hs3 hin hasks hB11 hB14 hB15 hD3 hdg hq hgc
          by_cases hlen : nO = t
          · have u1 : ((nO : Int) != (t : Int)) = false := by simp [hlen]
            by_cases hdeg : dg < ((nI j t : Nat) : Int)
            · have u2 : decide (((nI j t : Nat) : Int) ≤ dg) = false := decide_eq_false (by omega)
              have HLD := Lib.hid (And.intro hlen hdeg)
              clear hlen hdeg
              go_wp2
              go_quiet (first | (go_at_call 25; exact HDF.out _) | (go_at_call 24; exact HDGR.out _))
              obtain ⟨w4, hw4⟩ : ∃ w4, w4 = w3.drewN nq := ⟨_, rfl⟩
              have hb34 : Below w3.heap.size w3 w4 := by rw [hw4]; exact below_drewN (Below.refl _ _) _
              have hB11 : Blk w4 w.heap.size 40 #[.slice AR t cR, .slice AL nL cL, .slice AO nO cO] := by rw [hw4]; exact HB11.out
              have hB14 : Blk w4 (w.heap.size + 1) 85 #[.slice A2 t c2] := by rw [hw4]; exact HB14.out
              have hB15 : Blk w4 (w.heap.size + 2) 25 #[.pointer (some ⟨Ds t, 0, none⟩)] := by rw [hw4]; exact HB15.out
              have HT7 : Hid (0 < t → Tab7 w w4 c g (w.heap.size + 3) t cs Ds (drR p kk D f.roots) f.opens 0) := Lib.hid fun h => by rw [hw4]; exact (show Tab5 (w3.drewN nq) g (w.heap.size + 3) t cs (rv2 p kk D f.roots Ds t) from ⟨(HT3.out h).low, (HT3.out h).blk, (HT3.out h).at_⟩).seven h
              have HM4 := Lib.hid (HM3.out.below hb34)
              have HGW4 := Lib.hid (grownBy_trans HGW3.out (grown_of_below hb34 (some c)))
              have HGM4 := Lib.hid (HGM3.out.trans (GrowM.of hb34))
              have HDOM : Hid (∀ i, i ≤ t → Dom w4 w4.heap.size (Ds i) b2 p (nI e i) (sqI s i)) := Lib.hid fun i hi => by
                obtain ⟨h1, _, _⟩ := HL.out.dom i hi
                have hne1 := HC1.out.dom_ne h1
                have hF4 : Fld w4 w4.heap.size b2 p := ((hd.fld.below (grown_below HGW4.out (Nat.le_of_lt HCW.out)) HSS.out.2.2).moreS (Nat.le_trans hd.fld.le HGW4.out.size) (Nat.le_refl _))
                exact h1.to hF4 (Nat.lt_of_lt_of_le h1.lt HGM4.out.size) (fun k u hu => by rw [← hu]; exact World.cell?_of_block (HGM4.out.block _ h1.lt hne1 (HDG.out i hi)))
              have HB114 := Lib.hid hB11
              have HB144 := Lib.hid hB14
              have HB154 := Lib.hid hB15
              rw [← hw4]
              have v0 := (hB14.cell 0).trans (show _ = some (.slice A2 t c2) from rfl)
              have HB34 := Lib.hid hb34
              clear hw4 hb34 hB11 hB14 hB15 f1 f2
              go_wp2
              clear v0
              go_loopw [91] (fun i wr => ∃ (u : Nat) (cs' : Array Value), u ≤ t ∧ i = vi u ∧ (0 < t → Tab7 w wr c g (w.heap.size + 3) t cs' Ds (drR p kk D f.roots) f.opens u) ∧ Chn wr c sg (iterP p kk D2 n3) ∧ GrowM w4 wr g g ∧ SL wr A3 asks ∧ ∀ v, v < u → showF p kk (opnO f.opens v).l (opnO f.opens v).rs (opnO f.opens v).ns (f.roots.getD v []) ((nI e (v + 1) : Nat) : Int) (onceL (modL asks (nI e (v + 1)))) = true) (fun i _ => t - (intOf i).toNat)
              case atStart => exact ⟨0, cs, Nat.zero_le _, rfl, HT7.out, HM4.out, GrowM.refl _ _ _, HAL.out.2.1.below HB34.out, fun v hv => absurd hv (Nat.not_lt_zero _)⟩
              case round =>
                obtain ⟨u, cs', hu, rfl, hT, hC, hG, hsA, hall⟩ := hrel
                have HSA := Lib.hid hsA
                clear hsA
                have hgw : w.grownBy wr (some c) := ⟨hG.os.trans HGW4.out.os, hG.tape.trans HGW4.out.tape, hG.output.trans HGW4.out.output, Nat.le_trans HGW4.out.size hG.size, fun x hx hne => (hG.block x (Nat.lt_of_lt_of_le hx HGW4.out.size) (by have := HGL.out; omega) (by have := HGL.out; omega)).trans (HGW4.out.block x hx hne)⟩
                have HGW := Lib.hid hgw
                have HGM := Lib.hid hG
                have HCN := Lib.hid hC
                have HTB := Lib.hid hT
                have HALL := Lib.hid hall
                have HBC := Lib.hid (grown_below hgw (Nat.le_of_lt HCW.out))
                have HFX := Lib.hid (HO.out _ hgw)
                have hB11 : Blk wr w.heap.size 40 #[.slice AR t cR, .slice AL nL cL, .slice AO nO cO] := (hG.block _ HB114.out.lt (by have := HGL.out; omega) (by have := HGL.out; omega)).trans HB114.out
                have hB14 : Blk wr (w.heap.size + 1) 85 #[.slice A2 t c2] := (hG.block _ HB144.out.lt (by have := HGL.out; omega) (by have := HGL.out; omega)).trans HB144.out
                have hB15 : Blk wr (w.heap.size + 2) 25 #[.pointer (some ⟨Ds t, 0, none⟩)] := (hG.block _ HB154.out.lt (by have := HGL.out; omega) (by have := HGL.out; omega)).trans HB154.out
                have HB11 := Lib.hid hB11
                have HB14 := Lib.hid hB14
                have HB15 := Lib.hid hB15
                clear hgw hG hC hT hall
                by_cases hlu : u < t
                · obtain rfl : A2 = some ⟨g, 0, none⟩ := (HT0.out (by omega)).1
                  have hT := HTB.out (by omega)
                  have huo : u < f.opens.length := by rw [HFX.out.lO, HLD.out.1]; exact hlu
                  have hur : u < f.roots.length := by rw [HYES.out]; exact hlu
                  obtain ⟨ao, A0, n0, c0, BR, mR, dR, BN, mN, dN, rfl, hok⟩ := HOE.out u huo
                  obtain ⟨q0, q1, q2, hop⟩ := hok wr HGW.out
                  have hlt5 := hT.sz
                  obtain ⟨x2, hx2⟩ : ∃ x, cs'[u * 5 + 2]? = some x := ⟨_, Array.getElem?_eq_getElem (by omega)⟩
                  obtain ⟨x3, hx3⟩ : ∃ x, cs'[u * 5 + 3]? = some x := ⟨_, Array.getElem?_eq_getElem (by omega)⟩
                  obtain ⟨x4, hx4⟩ : ∃ x, cs'[u * 5 + 4]? = some x := ⟨_, Array.getElem?_eq_getElem (by omega)⟩
                  have w2' := (hT.blk.cell (u * 5 + 2)).trans hx2
                  have w3' := (hT.blk.cell (u * 5 + 3)).trans hx3
                  have w4' := (hT.blk.cell (u * 5 + 4)).trans hx4
                  have z2 := hT.blk.frozen (u * 5 + 2)
                  have z3 := hT.blk.frozen (u * 5 + 3)
                  have z4 := hT.blk.frozen (u * 5 + 4)
                  have hTL := hT.lay (u := u) hlu (fun w' h => (hok w' h).2.2.2)
                  have f2 := (hB11.cell 2).trans (show _ = some (.slice (some ao) nO cO) from rfl)
                  have v0 := (hB14.cell 0).trans (show _ = some (.slice (some ⟨g, 0, none⟩) t c2) from rfl)
                  have i1 : (0 : Int) ≤ (u : Int) := by omega
                  have i2 : (u : Int) < (t : Int) := by omega
                  have i3 : (u : Int) < (nO : Int) := by rw [HLD.out.1]; exact i2
                  have hwu : IntKind.i64.wrap ((u : Int) + 1) = (u : Int) + 1 := step_wrap (by have := HR.out; unfold rndK at this; omega)
                  have HTL := Lib.hid hTL
                  have HOK := Lib.hid hok
                  have HBG := Lib.hid hT.blk
                  clear hT hop hlt5 hx2 hx3 hx4 hTL hok hB11 hB14 hB15
                  have HGG : Hid (∀ W', GrowM w4 W' g g → w.grownBy W' (some c) ∧ Blk W' w.heap.size 40 #[.slice AR t cR, .slice AL nL cL, .slice (some ao) nO cO] ∧ Blk W' (w.heap.size + 1) 85 #[.slice (some ⟨g, 0, none⟩) t c2]) := Lib.hid fun W' hG =>
                    ⟨⟨hG.os.trans HGW4.out.os, hG.tape.trans HGW4.out.tape, hG.output.trans HGW4.out.output, Nat.le_trans HGW4.out.size hG.size, fun x hx hne => (hG.block x (Nat.lt_of_lt_of_le hx HGW4.out.size) (by have := HGL.out; omega) (by have := HGL.out; omega)).trans (HGW4.out.block x hx hne)⟩,
                      (hG.block _ HB114.out.lt (by have := HGL.out; omega) (by have := HGL.out; omega)).trans HB114.out, (hG.block _ HB144.out.lt (by have := HGL.out; omega) (by have := HGL.out; omega)).trans HB144.out⟩
                  have KS : Hid (∀ W', GrowM w4 W' g g → W'.cell? ⟨w.heap.size + 1, 0, none⟩ = some (.slice (some ⟨g, 0, none⟩) t c2) ∧ W'.cell? ⟨w.heap.size, 2, none⟩ = some (.slice (some ao) nO cO) ∧ W'.cell? (ao.add (u * 3)) = some (.slice A0 n0 c0) ∧ W'.cell? ⟨(ao.add (u * 3)).block, (ao.add (u * 3)).off + 1, none⟩ = some (.slice BR mR dR) ∧ W'.cell? ⟨(ao.add (u * 3)).block, (ao.add (u * 3)).off + 2, none⟩ = some (.slice BN mN dN)) := Lib.hid fun W' h => by
                    obtain ⟨h1, h2, h3⟩ := HGG.out W' h
                    obtain ⟨e0, e1, e2, _⟩ := HOK.out W' h1
                    exact ⟨(h3.cell 0).trans rfl, (h2.cell 2).trans rfl, e0, e1, e2⟩
                  have kd : GrowM w4 wr.drew g g := HGM.out.trans (GrowM.of (below_drewN (Below.refl _ _) 1))
                  obtain ⟨w5, hw5⟩ : ∃ w5, w5 = (((wr.setCell ⟨g, u * 5 + 2, none⟩ (.slice A0 n0 c0)).setCell ⟨g, u * 5 + 3, none⟩ (.slice BR mR dR)).setCell ⟨g, u * 5 + 4, none⟩ (.slice BN mN dN)) := ⟨_, rfl⟩
                  obtain ⟨w6, hw6⟩ : ∃ w6, w6 = (((wr.setCell ⟨g, u * 5 + 2, none⟩ (.slice A0 n0 c0)).setCell ⟨g, u * 5 + 2 + 1, none⟩ (.slice BR mR dR)).setCell ⟨g, u * 5 + 2 + 2, none⟩ (.slice BN mN dN)).drew := ⟨_, rfl⟩
                  have hh65 : w6.heap = w5.heap := by rw [hw6, hw5]; rfl
                  have hg6 : wr.drew.grownBy w6 (some g) := by
                    have hgx : wr.grownBy (((wr.setCell ⟨g, u * 5 + 2, none⟩ (.slice A0 n0 c0)).setCell ⟨g, u * 5 + 2 + 1, none⟩ (.slice BR mR dR)).setCell ⟨g, u * 5 + 2 + 2, none⟩ (.slice BN mN dN)) (some g) := grownBy_trans (grownBy_trans blk_grown blk_grown) blk_grown
                    rw [hw6]
                    exact ⟨hgx.os, hgx.tape, hgx.output, hgx.size, hgx.block⟩
                  have k6 : GrowM w4 w6 g g := kd.trans (GrowM.one hg6)
                  have HC6 : Hid (Chn w6 c sg (iterP p kk D2 n3)) := Lib.hid (Chn.keepT (show Chn wr.drew c sg (iterP p kk D2 n3) from HCN.out) (show Blk wr.drew g 87 cs' from HBG.out) hg6 (by have := HCW.out; have := HGL.out; omega))
                  rw [← hw5] at HTL
                  have HK6 := Lib.hid k6
                  have HT6 : Hid (Tab7 w w6 c g (w.heap.size + 3) t _ Ds (drR p kk D f.roots) f.opens (u + 1)) := Lib.hid ⟨HTL.out.low, by unfold Blk; rw [hh65]; exact HTL.out.blk, HTL.out.sz, HTL.out.p0, HTL.out.p1, HTL.out.op⟩
                  clear hg6 hh65 hw5 q0 q1 q2 f2 v0
                  go_wp2_with fail
                  refine wp_region_held_drew (S := fun W' => W'.cell? ⟨w.heap.size + 1, 0, none⟩ = some (.slice (some ⟨g, 0, none⟩) t c2) ∧ W'.cell? ⟨w.heap.size, 2, none⟩ = some (.slice (some ao) nO cO) ∧ W'.cell? (ao.add (u * 3)) = some (.slice A0 n0 c0) ∧ W'.cell? ⟨(ao.add (u * 3)).block, (ao.add (u * 3)).off + 1, none⟩ = some (.slice BR mR dR) ∧ W'.cell? ⟨(ao.add (u * 3)).block, (ao.add (u * 3)).off + 2, none⟩ = some (.slice BN mN dN)) (by kernel_rfl) (KS.out _ kd) (fun hHeld => ?_)
                  refine wpAnyH_take_at (i := 0) rfl rfl (by kernel_rfl) (by kernel_rfl) (by kernel_rfl) (fun _ _ _ h => h) (Or.inl ⟨by rfl, by (intro w hSw; (try dsimp only at hSw); go_simp; try with_reducible rfl)⟩) (by assumption) ?_
                  (try simp only [Act.put, List.setIfInBounds_toArray, List.set_cons_zero, List.set_cons_succ])
                  refine wpAnyH_take_at (i := 1) rfl rfl (by kernel_rfl) (by kernel_rfl) (by kernel_rfl) (fun _ _ _ h => h) (Or.inl ⟨by rfl, by (intro w hSw; (try dsimp only at hSw); go_simp; try with_reducible rfl)⟩) (by assumption) ?_
                  (try simp only [Act.put, List.setIfInBounds_toArray, List.set_cons_zero, List.set_cons_succ])
                  refine wpAnyH_take_at (i := 2) rfl rfl (by kernel_rfl) (by kernel_rfl) (by kernel_rfl) (fun _ _ _ h => h) (Or.inl ⟨by rfl, by (intro w hSw; (try dsimp only at hSw); go_simp; try with_reducible rfl)⟩) (by assumption) ?_
                  (try simp only [Act.put, List.setIfInBounds_toArray, List.set_cons_zero, List.set_cons_succ])
                  refine wpAnyH_take_at (i := 3) rfl rfl (by kernel_rfl) (by kernel_rfl) (by kernel_rfl) (fun _ _ _ h => h) (Or.inl ⟨by rfl, by (intro w hSw; (try dsimp only at hSw); go_simp; try with_reducible rfl)⟩) (by assumption) ?_
                  (try simp only [Act.put, List.setIfInBounds_toArray, List.set_cons_zero, List.set_cons_succ])
                  refine wpAnyH_take_at (i := 4) rfl rfl (by kernel_rfl) (by kernel_rfl) (by kernel_rfl) (fun _ _ _ h => h) (Or.inl ⟨by rfl, by (intro w hSw; (try dsimp only at hSw); go_simp; try with_reducible rfl)⟩) (by assumption) ?_
                  (try simp only [Act.put, List.setIfInBounds_toArray, List.set_cons_zero, List.set_cons_succ])
                  refine wpAnyH_take_at (i := 5) rfl rfl (by kernel_rfl) (by kernel_rfl) (by kernel_rfl) (fun _ _ _ h => h) (Or.inl ⟨by rfl, by (intro w hSw; (try dsimp only at hSw); go_simp; try with_reducible rfl)⟩) (by assumption) ?_
                  (try simp only [Act.put, List.setIfInBounds_toArray, List.set_cons_zero, List.set_cons_succ])
                  refine wpAnyH_take_at (i := 6) rfl rfl (by kernel_rfl) (by kernel_rfl) (by kernel_rfl) (fun _ _ _ h => h) (Or.inl ⟨by rfl, by (intro w hSw; (try dsimp only at hSw); go_simp; try with_reducible rfl)⟩) (by assumption) ?_
                  (try simp only [Act.put, List.setIfInBounds_toArray, List.set_cons_zero, List.set_cons_succ])
                  refine wpAnyH_take_at (i := 7) rfl rfl (by kernel_rfl) (by kernel_rfl) (by kernel_rfl) (fun _ _ _ h => h) (Or.inl ⟨by rfl, by (intro w hSw; (try dsimp only at hSw); go_simp; try with_reducible rfl)⟩) (by assumption) ?_
                  (try simp only [Act.put, List.setIfInBounds_toArray, List.set_cons_zero, List.set_cons_succ])
                  refine wpAnyH_take_at (i := 8) rfl rfl (by kernel_rfl) (by kernel_rfl) (by kernel_rfl) (fun _ _ _ h => h) (Or.inl ⟨by rfl, by (intro w hSw; (try dsimp only at hSw); go_simp; try with_reducible rfl)⟩) (by assumption) ?_
                  (try simp only [Act.put, List.setIfInBounds_toArray, List.set_cons_zero, List.set_cons_succ])
                  refine wpAnyH_ready (rs := [9]) (by kernel_rfl) (by simp) ?_
                  refine AllReadyH.cons rfl (fun K hK => ?_) AllReadyH.nil
                  go_simp
                  rw [← hw6]
                  refine hK.out _ _ (KS.out _ k6) (fun hHeld => ?_)
                  clear hK K
                  (try simp only [Act.put, List.setIfInBounds_toArray, List.set_cons_zero, List.set_cons_succ])
                  refine wpAnyH_done (by kernel_rfl) ?_ _
                  clear hHeld KS kd k6 w2' w3' w4' z2 z3 z4 hw6
                  obtain ⟨hgw6, hb11, hb14⟩ := HGG.out w6 HK6.out
                  have HF6 := Lib.hid (HO.out _ hgw6)
                  obtain ⟨ar, B1, m1, d1, rfl, hb1', hc1, hl1, hn1, hs1, hi1⟩ := HF6.out.tR u hur
                  have hroot : f.roots.getD u [] = f.roots[u] := by rw [List.getD_eq_getElem?_getD, List.getElem?_eq_getElem hur, Option.getD_some]
                  have r0 := (HT6.out.blk.cell (u * 5)).trans (HT6.out.p0 u hlu)
                  have r1 := (HT6.out.blk.cell (u * 5 + 1)).trans (HT6.out.p1 u hlu)
                  obtain ⟨E0, y0, z0, ER, yR, zR, EN, yN, zN, s2, s3, s4, hopk⟩ := HT6.out.op u (by omega)
                  have r2 := (HT6.out.blk.cell (u * 5 + 2)).trans s2
                  have r3 := (HT6.out.blk.cell (u * 5 + 3)).trans s3
                  have r4 := (HT6.out.blk.cell (u * 5 + 4)).trans s4
                  have v0 := (hb14.cell 0).trans (show _ = some (.slice (some ⟨g, 0, none⟩) t c2) from rfl)
                  have f0 := (hb11.cell 0).trans (show _ = some (.slice (some ar) t cR) from rfl)
                  have hbc6 := grown_below hgw6 (Nat.le_of_lt HCW.out)
                  have h46 : Below c w w6 := hbc6
                  have hD6 : Dom w6 w6.heap.size (Ds u) b2 p (nI e u) (sqI s u) := (HDOM.out u (by omega)).to ((hd.fld.below hbc6 HSS.out.2.2).moreS (Nat.le_trans hd.fld.le hgw6.size) (Nat.le_refl _)) (Nat.lt_of_lt_of_le (HDOM.out u (by omega)).lt HK6.out.size) (fun k x hx => by rw [← hx]; exact World.cell?_of_block (HK6.out.block _ (HDOM.out u (by omega)).lt (HDG.out u (by omega)) (HDG.out u (by omega))))
                  have hue : u < e := by have h1 := HR.out; unfold rndK at h1; omega
                  have HSH : Hid (∀ W', Below w6.heap.size w6 W' → Calls Tryz.prog 40 #[.agg #[.pointer (some ⟨Ds u, 0, none⟩), vi (drR p kk D f.roots u), .slice E0 y0 z0, .slice ER yR zR, .slice EN yN zN], .pointer (some ⟨sg, 0, none⟩), .slice B1 m1 d1, .slice A3 n3 c3] W' fun ee w' => SaysW (.bool (showF p kk (opnO f.opens u).l (opnO f.opens u).rs (opnO f.opens u).ns (f.roots.getD u []) ((nI e (u + 1) : Nat) : Int) (onceL (modL asks (nI e (u + 1)))))) W' ee w') := Lib.hid fun W' hb' => by
                    rw [hroot]
                    exact shown_any p S1 b1 sg kk z w6.heap.size (Ds u) b2 oo (nI e u) (nI e (u + 1)) (nI_step hue) (nI_pos _ _) (nI_le he u) (sqI s u) _ B1 m1 d1 f.roots[u] ⟨hl1, hi1, by omega⟩ A3 n3 c3 asks HAL.out.1 (fun x hx => (HAL.out.2.2 x hx).1) (by have := HAA.out.2; omega) (opnO f.opens u) W' ((HFS.out.below hbc6 HSS.out.1).below hb' (HFS.out.below hbc6 HSS.out.1).le) ((HGS.out.below hbc6 HSS.out.2.1).below hb' (block_lt_of_cell (HGS.out.below hbc6 HSS.out.2.1).c0)) (hD6.below hb' (Nat.le_refl _)) (hs1.below hb') (((HAL.out.2.1.below HB34.out).keepG HK6.out (HAG.out (by omega))).below hb') ((hopk w6 hgw6).below hb')
                  have KS : Hid (∀ W', Below w6.heap.size w6 W' → W'.cell? ⟨w.heap.size + 1, 0, none⟩ = some (.slice (some ⟨g, 0, none⟩) t c2) ∧ W'.cell? ⟨g, u * 5, none⟩ = some (.pointer (some ⟨Ds u, 0, none⟩)) ∧ W'.cell? ⟨g, u * 5 + 1, none⟩ = some (vi (drR p kk D f.roots u)) ∧ W'.cell? ⟨g, u * 5 + 2, none⟩ = some (.slice E0 y0 z0) ∧ W'.cell? ⟨g, u * 5 + 3, none⟩ = some (.slice ER yR zR) ∧ W'.cell? ⟨g, u * 5 + 4, none⟩ = some (.slice EN yN zN) ∧ W'.cell? ⟨w.heap.size, 0, none⟩ = some (.slice (some ar) t cR) ∧ W'.cell? (ar.add u) = some (.slice B1 m1 d1)) := Lib.hid fun W' hb =>
                    ⟨(hb.cell (block_lt_of_cell v0)).trans v0, (hb.cell (block_lt_of_cell r0)).trans r0, (hb.cell (block_lt_of_cell r1)).trans r1, (hb.cell (block_lt_of_cell r2)).trans r2, (hb.cell (block_lt_of_cell r3)).trans r3, (hb.cell (block_lt_of_cell r4)).trans r4, (hb.cell (block_lt_of_cell f0)).trans f0, (hb.cell (block_lt_of_cell hc1)).trans hc1⟩
                  have hb66 : Below w6.heap.size w6 w6.drew := below_drewN (Below.refl _ _) 1
                  obtain ⟨sB, hsB⟩ : ∃ sB, sB = showF p kk (opnO f.opens u).l (opnO f.opens u).rs (opnO f.opens u).ns (f.roots.getD u []) ((nI e (u + 1) : Nat) : Int) (onceL (modL asks (nI e (u + 1)))) := ⟨_, rfl⟩
                  rw [← hsB] at HSH
                  have HSB := Lib.hid hsB
                  clear hsB hgw6 hb11 hb14 hb1' hl1 hn1 hs1 hi1 hroot r0 r1 r2 r3 r4 s2 s3 s4 hopk v0 f0 hbc6 h46 hD6 hc1
                  go_wp2_with fail
                  refine wp_region_held_drew (S := fun W' => W'.cell? ⟨w.heap.size + 1, 0, none⟩ = some (.slice (some ⟨g, 0, none⟩) t c2) ∧ W'.cell? ⟨g, u * 5, none⟩ = some (.pointer (some ⟨Ds u, 0, none⟩)) ∧ W'.cell? ⟨g, u * 5 + 1, none⟩ = some (vi (drR p kk D f.roots u)) ∧ W'.cell? ⟨g, u * 5 + 2, none⟩ = some (.slice E0 y0 z0) ∧ W'.cell? ⟨g, u * 5 + 3, none⟩ = some (.slice ER yR zR) ∧ W'.cell? ⟨g, u * 5 + 4, none⟩ = some (.slice EN yN zN) ∧ W'.cell? ⟨w.heap.size, 0, none⟩ = some (.slice (some ar) t cR) ∧ W'.cell? (ar.add u) = some (.slice B1 m1 d1)) (by kernel_rfl) (KS.out _ hb66) (fun hHeld => ?_)
                  refine wpAnyH_take_at (i := 0) rfl rfl (by kernel_rfl) (by kernel_rfl) (by kernel_rfl) (fun _ _ _ h => h) (Or.inl ⟨by rfl, by (intro w hSw; (try dsimp only at hSw); go_simp; try with_reducible rfl)⟩) (by assumption) ?_
                  (try simp only [Act.put, List.setIfInBounds_toArray, List.set_cons_zero, List.set_cons_succ])
                  refine wpAnyH_take_at (i := 1) rfl rfl (by kernel_rfl) (by kernel_rfl) (by kernel_rfl) (fun _ _ _ h => h) (Or.inl ⟨by rfl, by (intro w hSw; (try dsimp only at hSw); go_simp; try with_reducible rfl)⟩) (by assumption) ?_
                  (try simp only [Act.put, List.setIfInBounds_toArray, List.set_cons_zero, List.set_cons_succ])
                  refine wpAnyH_take_at (i := 2) rfl rfl (by kernel_rfl) (by kernel_rfl) (by kernel_rfl) (fun _ _ _ h => h) (Or.inl ⟨by rfl, by (intro w hSw; (try dsimp only at hSw); go_simp; try with_reducible rfl)⟩) (by assumption) ?_
                  (try simp only [Act.put, List.setIfInBounds_toArray, List.set_cons_zero, List.set_cons_succ])
                  refine wpAnyH_take_at (i := 3) rfl rfl (by kernel_rfl) (by kernel_rfl) (by kernel_rfl) (fun _ _ _ h => h) (Or.inl ⟨by rfl, by (intro w hSw; (try dsimp only at hSw); go_simp; try with_reducible rfl)⟩) (by assumption) ?_
                  (try simp only [Act.put, List.setIfInBounds_toArray, List.set_cons_zero, List.set_cons_succ])
                  refine wpAnyH_take_at (i := 4) rfl rfl (by kernel_rfl) (by kernel_rfl) (by kernel_rfl) (fun _ _ _ h => h) (Or.inl ⟨by rfl, by (intro w hSw; (try dsimp only at hSw); go_simp; try with_reducible rfl)⟩) (by assumption) ?_
                  (try simp only [Act.put, List.setIfInBounds_toArray, List.set_cons_zero, List.set_cons_succ])
                  refine wpAnyH_take_at (i := 5) rfl rfl (by kernel_rfl) (by kernel_rfl) (by kernel_rfl) (fun _ _ _ h => h) (Or.inl ⟨by rfl, by (intro w hSw; (try dsimp only at hSw); go_simp; try with_reducible rfl)⟩) (by assumption) ?_
                  (try simp only [Act.put, List.setIfInBounds_toArray, List.set_cons_zero, List.set_cons_succ])
                  refine wpAnyH_take_at (i := 6) rfl rfl (by kernel_rfl) (by kernel_rfl) (by kernel_rfl) (fun _ _ _ h => h) (Or.inl ⟨by rfl, by (intro w hSw; (try dsimp only at hSw); go_simp; try with_reducible rfl)⟩) (by assumption) ?_
                  (try simp only [Act.put, List.setIfInBounds_toArray, List.set_cons_zero, List.set_cons_succ])
                  refine wpAnyH_take_at (i := 7) rfl rfl (by kernel_rfl) (by kernel_rfl) (by kernel_rfl) (fun _ _ _ h => h) (Or.inl ⟨by rfl, by (intro w hSw; (try dsimp only at hSw); go_simp; try with_reducible rfl)⟩) (by assumption) ?_
                  (try simp only [Act.put, List.setIfInBounds_toArray, List.set_cons_zero, List.set_cons_succ])
                  refine wpAnyH_take_at (i := 8) rfl rfl (by kernel_rfl) (by kernel_rfl) (by kernel_rfl) (fun _ _ _ h => h) (Or.inl ⟨by rfl, by (intro w hSw; (try dsimp only at hSw); go_simp; try with_reducible rfl)⟩) (by assumption) ?_
                  (try simp only [Act.put, List.setIfInBounds_toArray, List.set_cons_zero, List.set_cons_succ])
                  refine wpAnyH_take_at (i := 9) rfl rfl (by kernel_rfl) (by kernel_rfl) (by kernel_rfl) (fun _ _ _ h => h) (Or.inl ⟨by rfl, by (intro w hSw; (try dsimp only at hSw); go_simp; try with_reducible rfl)⟩) (by assumption) ?_
                  (try simp only [Act.put, List.setIfInBounds_toArray, List.set_cons_zero, List.set_cons_succ])
                  refine wpAnyH_take_at (i := 10) rfl rfl (by kernel_rfl) (by kernel_rfl) (by kernel_rfl) (fun _ _ _ h => h) (Or.inl ⟨by rfl, by (intro w hSw; (try dsimp only at hSw); go_simp; try with_reducible rfl)⟩) (by assumption) ?_
                  (try simp only [Act.put, List.setIfInBounds_toArray, List.set_cons_zero, List.set_cons_succ])
                  refine wpAnyH_ready (rs := [11]) (by kernel_rfl) (by simp) ?_
                  refine AllReadyH.cons rfl (fun K hK => ?_) AllReadyH.nil
                  go_simp
                  refine (HSH.out _ hb66).mono ?_
                  rintro _ w7 ⟨rfl, hb7'⟩
                  have hb7 : Below w6.heap.size w6 w7 := hb66.trans (hb7'.mono hb66.size)
                  refine hK.out _ _ (by (first | exact KS.out _ (by assumption) | (simp only [Act.put]; exact KS.out _ (by assumption)))) (fun hHeld => ?_)
                  clear hK K
                  (try simp only [Act.put, List.setIfInBounds_toArray, List.set_cons_zero, List.set_cons_succ])
                  refine wpAnyH_ready (rs := [12]) (by kernel_rfl) (by simp) ?_
                  refine AllReadyH.cons rfl (fun K hK => ?_) AllReadyH.nil
                  go_simp
                  refine hK.out _ _ (KS.out _ hb7) (fun hHeld => ?_)
                  clear hK K
                  (try simp only [Act.put, List.setIfInBounds_toArray, List.set_cons_zero, List.set_cons_succ])
                  refine wpAnyH_done (by kernel_rfl) ?_ _
                  have HB67 := Lib.hid hb7
                  clear hHeld KS hb66 hb7 hb7'
                  cases sB with
                  | true =>
                    have HALL2 : Hid (∀ v, v < u + 1 → showF p kk (opnO f.opens v).l (opnO f.opens v).rs (opnO f.opens v).ns (f.roots.getD v []) ((nI e (v + 1) : Nat) : Int) (onceL (modL asks (nI e (v + 1)))) = true) := Lib.hid fun v hv => by
                      by_cases hvu : v < u
                      · exact HALL.out v hvu
                      · obtain rfl : v = u := by omega
                        exact HSB.out.symm
                    have HT7' := Lib.hid (show Tab7 w w7 c g (w.heap.size + 3) t _ Ds (drR p kk D f.roots) f.opens (u + 1) from ⟨HT6.out.low, Blk.below HT6.out.blk HB67.out HT6.out.blk.lt, HT6.out.sz, HT6.out.p0, HT6.out.p1, HT6.out.op⟩)
                    have HC7 := Lib.hid (HC6.out.below HB67.out)
                    have HK7 := Lib.hid (HK6.out.trans (GrowM.of HB67.out))
                    go_wp2
                    go_roundw
                    case rel => exact ⟨u + 1, _, Nat.succ_le_of_lt hlu, by go_num, fun _ => HT7'.out, HC7.out, HK7.out, (HAL.out.2.1.below HB34.out).keepG HK7.out (HAG.out (by omega)), HALL2.out⟩
                    case measure => simp [intOf]; omega
                  | false =>
                    have hn := okO_show (p := p) (k := kk) (s := s) (e := e) (j := j) (f := f) (D := D) (a := n3) (u := u) (by rw [← HR.out]; exact hlu) (by rw [← HD2.out, ← HAS.out]; exact HSB.out.symm)
                    have HN : Hid (CkP p kk c sg s e j f D n3 w (.returned (.tuple #[.slice none 0 0, .bool false])) w7) := Lib.hid (by
                      unfold CkP
                      rw [hn, ← HD2.out]
                      exact ⟨CkIs.no _ _, HC6.out.below HB67.out, grownBy_trans (HGG.out w6 HK6.out).1 (grown_of_below HB67.out (some c))⟩)
                    clear hn
                    go_wp2
                    exact bodyPost_ret (v := .tuple #[.slice none 0 0, .bool false]) (by simp [results, Tryz.results10, go_sem]) rfl HN.out
                · have eu : u = t := by omega
                  subst eu
                  have hDW : ∀ i, i ≤ u → Dom wr wr.heap.size (Ds i) b2 p (nI e i) (sqI s i) := fun i hi => (HDOM.out i hi).to ((hd.fld.below HBC.out HSS.out.2.2).moreS (Nat.le_trans hd.fld.le HGW.out.size) (Nat.le_refl _)) (Nat.lt_of_lt_of_le (HDOM.out i hi).lt HGM.out.size) (fun k x hx => by rw [← hx]; exact World.cell?_of_block (HGM.out.block _ (HDOM.out i hi).lt (HDG.out i hi) (HDG.out i hi)))
                  have hRe : u ≤ e := by have h1 := HR.out; unfold rndK at h1; omega
                  have HFO : Hid (∀ x ∈ asks, ∀ W', Below wr.heap.size wr W' → Calls Tryz.prog 42 (#[vi x] ++ #[.pointer (some ⟨w.heap.size + 1, 0, none⟩), .pointer (some ⟨w.heap.size + 2, 0, none⟩), .pointer (some ⟨w.heap.size, 0, none⟩)]) W' (SaysW (.bool (!goesO p s e f.opens (drR p kk D f.roots) f.last u x)) W')) := Lib.hid fun x hx W' hb' => by
                    have hpin := HAL.out.2.2 x hx
                    have h16 := nI_le he 1
                    refine check1_any x _ _ _ (Ds u) A2 u c2 AL nL cL _ W' (((Blk.below hB14 hb' hB14.lt).cell 0).trans rfl) (((Blk.below hB15 hb' hB15.lt).cell 0).trans rfl) (((Blk.below hB11 hb' hB11.lt).cell 1).trans rfl) ?_
                    exact follows_any p wr.heap.size b2 s e he Ds f.opens (drR p kk D f.roots) f.last u hRe A2 c2 AL nL cL HFX.out.lL HFX.out.iL HFX.out.bL x hpin.1 (by omega) (fun i hi => okO_of (HALL.out i hi) (by rw [HAL.out.1]; have := HAA.out.2; omega) hx) (i64_drR hd.fld.max D f.roots) W' (fun i hi => (hDW i hi).below hb' (Nat.le_refl _)) (fun i hi => ⟨_, (HT0.out (by omega)).1, (HTB.out (by omega)).rnd hb' (grownBy_trans HGW.out (grown_of_below hb' (some c))) hi⟩) (HFX.out.sL.below hb')
                  have HCT := Lib.hid (containsG_any 42 (enters_of Tryz.func42 (by kernel_rfl) rfl) #[.pointer (some ⟨w.heap.size + 1, 0, none⟩), .pointer (some ⟨w.heap.size + 2, 0, none⟩), .pointer (some ⟨w.heap.size, 0, none⟩)] (fun x => !goesO p s e f.opens (drR p kk D f.roots) f.last u x) A3 n3 c3 asks HAL.out.1 (by have := HAA.out.2; omega) wr HFO.out HSA.out)
                  obtain ⟨anyB, hany⟩ : ∃ anyB, anyB = asks.any fun x => !goesO p s e f.opens (drR p kk D f.roots) f.last u x := ⟨_, rfl⟩
                  rw [← hany] at HCT
                  have HAN := Lib.hid hany
                  clear hany hDW
                  cases anyB with
                  | true =>
                    obtain ⟨x, hx, hgx⟩ := List.any_eq_true.1 HAN.out.symm
                    have hn := okO_goes (p := p) (k := kk) (s := s) (e := e) (j := j) (f := f) (D := D) (a := n3) (x := x) (by rw [← HD2.out, ← HAS.out]; exact hx) (by rw [← HR.out]; simpa using hgx)
                    have HOKF := Lib.hid hn
                    clear hn hgx
                    go_wp2_with fail
                    refine HCT.out.mono ?_
                    rintro _ w8 ⟨rfl, hb8⟩
                    have HN : Hid (CkP p kk c sg s e j f D n3 w (.returned (.tuple #[.slice none 0 0, .bool false])) w8) := Lib.hid (by
                      unfold CkP
                      rw [HOKF.out, ← HD2.out]
                      exact ⟨CkIs.no _ _, HCN.out.below hb8, grownBy_trans HGW.out (grown_of_below hb8 (some c))⟩)
                    clear hb8
                    go_wp2
                    exact bodyPost_ret (v := .tuple #[.slice none 0 0, .bool false]) (by simp [results, Tryz.results10, go_sem]) rfl HN.out
                  | false =>
                    have hn : okO p kk s e j f D n3 = true := okO_true (by rw [← HR.out, HFX.out.lO]; exact HLD.out.1) (by rw [← HR.out, ← HDGE.out]; exact HLD.out.2) (fun v hv => by rw [← HD2.out, ← HAS.out]; exact HALL.out v (by rw [HR.out]; exact hv)) (fun x hx => by
                      rw [← HD2.out, ← HAS.out] at hx
                      have h1 := List.any_eq_false.1 HAN.out.symm x hx
                      rw [← HR.out]
                      simpa using h1)
                    have HOKT := Lib.hid hn
                    clear hn
                    go_wp2_with fail
                    refine HCT.out.mono ?_
                    rintro _ w8 ⟨rfl, hb8⟩
                    have HN : Hid (CkP p kk c sg s e j f D n3 w (.returned (.tuple #[.slice A3 n3 c3, .bool true])) w8) := Lib.hid (by
                      unfold CkP
                      rw [HOKT.out, if_pos rfl, ← HD2.out, ← HAS.out]
                      exact ⟨⟨A3, n3, c3, rfl, HAL.out.1, by have := HAA.out.2; omega, HSA.out.below hb8, fun x hx => by
                        have h1 := HAL.out.2.2 x hx
                        have := nI_le he 1
                        constructor <;> omega, HA3.out⟩, HCN.out.below hb8, grownBy_trans HGW.out (grown_of_below hb8 (some c))⟩)
                    clear hb8
                    go_wp2
                    exact bodyPost_ret (v := .tuple #[.slice A3 n3 c3, .bool true]) (by simp [results, Tryz.results10, go_sem]) rfl HN.out
            · have u2 : decide (((nI j t : Nat) : Int) ≤ dg) = true := decide_eq_true (by omega)
              have hn := okO_deg (p := p) (k := kk) (s := s) (e := e) (j := j) (f := f) (D := D) (a := n3) (by rw [← HR.out, ← HDGE.out]; exact hdeg)
              have HN := Lib.hid hn
              clear hlen hdeg hn
              go_wp2
              go_quiet (first | (go_at_call 25; exact HDF.out _) | (go_at_call 24; exact HDGR.out _))
              go_wp2
              exact bodyPost_ret (v := .tuple #[.slice none 0 0, .bool false]) (by simp [results, Tryz.results10, go_sem]) rfl (HFAIL.out _ (below_drewN (Below.refl _ _) _) HN.out)
          · have u1 : ((nO : Int) != (t : Int)) = true := by rw [bne_iff_ne]; omega
            have hn := okO_len (p := p) (k := kk) (s := s) (e := e) (j := j) (f := f) (D := D) (a := n3) (by rw [← HR.out, HF3.out.lO]; exact hlen)
            have HN := Lib.hid hn
            clear hlen hn
            go_wp2
            go_quiet (fail)
            go_wp2
            exact bodyPost_ret (v := .tuple #[.slice none 0 0, .bool false]) (by simp [results, Tryz.results10, go_sem]) rfl (HFAIL.out _ (below_drewN (Below.refl _ _) _) HN.out)
end Go.Proofs.YtonalbdehcmjmaaGreat

/- fold.Make ahead of its walk: what stands behind a round, and what is handed back. -/
set_option linter.unusedVariables false
namespace Go.Proofs.YtonalbdehcmjmaaGreat
open Go.RowKit Zp
theorem clipO_any (A : Option Addr) (n c : Nat) (hn : n ≤ c) (hc : c ≤ 9223372036854775807) (w : World) :
    Calls Tryz.prog 39 #[.slice A n c] w fun e w' => e = .returned (.slice A n n) ∧ w = w' := by
  go_enter Tryz.func39, Tryz.ntmps39
  go_wp2
  go_ret
  exact ⟨rfl, rfl⟩
/-- a domain whose block stays -/
theorem Dom.held {w w' : World} {S S' D b p n : Nat} [NeZero p] {s : Fin p} (h : Dom w S D b p n s) (hF : Fld w' S' b p) (hD : D < S') (hb : w'.heap[D]? = w.heap[D]?) : Dom w' S' D b p n s :=
  h.to hF hD fun j v hv => (World.cell?_of_block (show w'.heap[(⟨D, j, none⟩ : Addr).block]? = w.heap[(⟨D, j, none⟩ : Addr).block]? from hb)).trans hv
theorem Dom.ne_blk {w : World} {S D b p n x : Nat} [NeZero p] {s : Fin p} {t : TypeId} {cs : Array Value} {A : Option Addr} {m c : Nat} (h : Dom w S D b p n s) (hx : Blk w x t cs) (h1 : cs[1]? = some (.slice A m c)) : D ≠ x := by
  rintro rfl
  have e1 := (hx.cell 1).trans h1
  rw [h.c1] at e1
  injection e1 with e1
  cases e1
section
variable {W2 wr wa w3 wb w4 : World} {ob c base sg : Nat} {rows : Nat → List (List Int)} {rts : Nat → List Int} {wv : List Int} {t1 t2 t : Nat} {AW : Option Addr} {v1 v2 vo v1' v2' : Value} {xs us : List Value}
theorem MS.own1 (h : MS W2 ob c base rows rts wv wr t1 t2 AW v1 v2 vo xs us) (hb : Below wr.heap.size wr wa) : wa.ownsRow base 37 1 v1 t1 xs := (h.below hb).tabs.own
theorem MS.own2 (h : MS W2 ob c base rows rts wv wr t1 t2 AW v1 v2 vo xs us) (hb : Below wr.heap.size wr wa) (p2 : wa.grownBy w3 v1.ownBlock) (hb' : Below w3.heap.size w3 wb) : wb.ownsRow base 22 1 v2 us.length us :=
  OwnR.below (row_stay (h.below hb).tabs.own p2 (h.below hb).rt.own (by decide)) hb'
theorem MS.bs (h : MS W2 ob c base rows rts wv wr t1 t2 AW v1 v2 vo xs us) (hb : Below wr.heap.size wr wa) : base ≤ wa.heap.size := (h.below hb).size
theorem MS.bs2 (h : MS W2 ob c base rows rts wv wr t1 t2 AW v1 v2 vo xs us) (hb : Below wr.heap.size wr wa) (p2 : wa.grownBy w3 v1.ownBlock) (hb' : Below w3.heap.size w3 wb) : base ≤ wb.heap.size := Nat.le_trans (h.bs hb) (Nat.le_trans p2.size hb'.size)
theorem MS.ob0 (h : MS W2 ob c base rows rts wv wr t1 t2 AW v1 v2 vo xs us) (hb : Below wr.heap.size wr wa) : wa.cell? ⟨ob, 0, none⟩ = some vo := ((h.below hb).out.cell 0).trans rfl
theorem MS.ob1 (h : MS W2 ob c base rows rts wv wr t1 t2 AW v1 v2 vo xs us) (hb : Below wr.heap.size wr wa) (p2 : wa.grownBy w3 v1.ownBlock) : w3.cell? ⟨ob, 0, none⟩ = some vo := ((row_far (h.below hb).tabs.own p2 (h.below hb).out (by decide)).cell 0).trans rfl
theorem MS.ob2 (h : MS W2 ob c base rows rts wv wr t1 t2 AW v1 v2 vo xs us) (hb : Below wr.heap.size wr wa) (p2 : wa.grownBy w3 v1.ownBlock) (hb' : Below w3.heap.size w3 wb) (q2 : wb.grownBy w4 v2.ownBlock) : w4.cell? ⟨ob, 0, none⟩ = some vo ∧ w4.frozen? ⟨ob, 0, none⟩ = false := by
  have h1 := row_far (h.below hb).tabs.own p2 (h.below hb).out (by decide)
  have h2 := Blk.below h1 hb' h1.lt
  have h3 := row_far (h.own2 hb p2 hb') q2 h2 (by decide)
  exact ⟨(h3.cell 0).trans rfl, h3.frozen 0⟩
/-- a cell that is newer than the table stays where the table is turned -/
theorem MS.new2 (h : MS W2 ob c base rows rts wv wr t1 t2 AW v1 v2 vo xs us) (p2 : wa.grownBy w3 v1.ownBlock) {g : Nat} (hg : wr.heap.size ≤ g) (hg2 : g < wa.heap.size) {l : List Value} (hc : ∀ j u, l[j]? = some u → wa.cell? ⟨g, j, none⟩ = some u) : ∀ j u, l[j]? = some u → w3.cell? ⟨g, j, none⟩ = some u := fun j u hj => by
  rw [← hc j u hj]
  exact World.cell?_of_block (p2.block g hg2 (fun e => by have := (World.ownsRow.lt h.tabs.own g e.symm).2; omega))
/-- what stands behind the two appends of a round -/
structure Two2 (W2 : World) (ob c base sg b2 Dt n : Nat) {p : Nat} [NeZero p] (s : Fin p) (rows : Nat → List (List Int)) (rts : Nat → List Int) (wv D : List Int) (t : Nat) (AW : Option Addr) (v1 v2 : Value) (xs us : List Value) (wn : World) : Prop where
  ms : MS W2 ob c base rows rts wv wn t t AW v1 v2 v2 xs us
  chn : Chn wn c sg D
  dom : Dom wn wn.heap.size Dt b2 p n s
  n1 : ∀ g, v1.ownBlock = some g → g ≠ Dt
  n2 : ∀ g, v2.ownBlock = some g → g ≠ Dt
theorem MS.two {p b2 Dt n S2 : Nat} [NeZero p] {s : Fin p} {D : List Int} (h : MS W2 ob c base rows rts wv wr t t AW v1 v2 v2 xs us) (hC : Chn wr c sg D) (hd : Dom wr wr.heap.size Dt b2 p n s) (hF : Fld W2 S2 b2 p) (hS2 : S2 ≤ c) (hco : c < ob)
    (n1 : ∀ g, v1.ownBlock = some g → g ≠ Dt) (n2 : ∀ g, v2.ownBlock = some g → g ≠ Dt)
    {A : Option Addr} {m cA : Nat} {ua : List Value} (ho : OwnR wr base (.slice A m cA) ua) (hr : RowsOwn wr base ua (rows t)) (hne : ∀ g, (Value.slice A m cA).ownBlock = some g → v2.ownBlock ≠ some g)
    {g cap : Nat} {tg : TypeId} {cg : Array Value} (hg : Blk wr g tg cg) (htg : tg = 3 ∨ tg = 56) (hs : SL wr (some ⟨g, 0, none⟩) (rts t)) (hl : (rts t).length = 4) (hi : ∀ x ∈ rts t, I64 x)
    (hb : Below wr.heap.size wr wa) (p1 : w3.ownsRow base 37 1 v1' (t + 1) (xs ++ [.slice A m cA])) (p2 : wa.grownBy w3 v1.ownBlock) (p3 : v1'.ownBlock = v1.ownBlock ∨ ∃ k, v1'.ownBlock = some k ∧ wa.heap.size ≤ k)
    (hb' : Below w3.heap.size w3 wb) (q1 : w4.ownsRow base 22 1 v2' (us.length + 1) (us ++ [.slice (some ⟨g, 0, none⟩) 4 cap])) (q2 : wb.grownBy w4 v2.ownBlock) (q3 : v2'.ownBlock = v2.ownBlock ∨ ∃ k, v2'.ownBlock = some k ∧ wb.heap.size ≤ k) :
    Two2 W2 ob c base sg b2 Dt n s rows rts wv D (t + 1) AW v1' v2' (xs ++ [.slice A m cA]) (us ++ [.slice (some ⟨g, 0, none⟩) 4 cap]) (w4.setCell ⟨ob, 0, none⟩ v2') ∧ SL (w4.setCell ⟨ob, 0, none⟩ v2') (some ⟨g, 0, none⟩) (rts t) := by
  have hA := h.below hb
  have ms1 := hA.app1 (ho.below hb) (hr.below hb) hne p1 p2
  have ms2 := ms1.below hb'
  have hgA := hg.below hb hg.lt
  have hg3 : Blk w3 g tg cg := row_far hA.tabs.own p2 hgA (by rcases htg with rfl | rfl <;> decide)
  have hgB := hg3.below hb' hg3.lt
  have hsB : SL wb (some ⟨g, 0, none⟩) (rts t) := sl_same hs (Nat.le_trans hb.size (Nat.le_trans p2.size hb'.size)) (fun ad e => by
    injection e with e; subst e
    exact (hgB : wb.heap[g]? = _).trans (hg : wr.heap[g]? = _).symm)
  have ms3 := ms2.app2 hgB htg hsB hl hi q1 q2 q3
  have ms4 := ms3.store v2'
  have hz1 := hb.size
  have hz2 := p2.size
  have hz3 := hb'.size
  have hz4 := q2.size
  have hbo : w4.grownBy (w4.setCell ⟨ob, 0, none⟩ v2') (some ob) := blk_grown
  have hz5 := hbo.size
  have hDlt := hd.lt
  have hobD : Dt ≠ ob := hd.ne_blk h.out rfl
  have hcC := hC.below hb
  have hC3 := hcC.row hA.tabs.own p2 h.hcb (by decide)
  have hCb := hC3.below hb'
  have hC4 := hCb.row ms2.rt.own q2 h.hcb (by decide)
  have hcob : c ≠ ob := by
    obtain ⟨v, hv⟩ := hC4.obj
    exact Blk.ne_ hv ms3.out (by decide)
  have hC5 := hC4.hold (Safe.one hbo ms3.out (by decide)) (hbo.block c hC4.lt (fun e => by injection e with e; exact hcob e))
  have hF5 : Fld (w4.setCell ⟨ob, 0, none⟩ v2') S2 b2 p := hF.keep (fun q hq => World.cell?_of_block (ms4.gm.block _ (by have := hF.le; omega) (by omega) (by omega))) ms4.gm.size
  have hFn := hF5.moreS (S' := (w4.setCell ⟨ob, 0, none⟩ v2').heap.size) hF5.le (Nat.le_refl _)
  have hD5 : (w4.setCell ⟨ob, 0, none⟩ v2').heap[Dt]? = wr.heap[Dt]? := by
    rw [hbo.block Dt (by omega) (fun e => by injection e with e; exact hobD e), q2.block Dt (by omega) (fun e => n2 Dt e.symm rfl), hb'.block Dt (by omega), p2.block Dt (by omega) (fun e => n1 Dt e.symm rfl), hb.block Dt hDlt]
  refine ⟨⟨ms4, hC5, hd.held hFn (by omega) hD5, fun g hgv => ?_, fun g hgv => ?_⟩, ?_⟩
  · rcases p3 with e | ⟨k, e, hk⟩
    · rw [e] at hgv; exact n1 g hgv
    · rw [e] at hgv; injection hgv with hgv; omega
  · rcases q3 with e | ⟨k, e, hk⟩
    · rw [e] at hgv; exact n2 g hgv
    · rw [e] at hgv; injection hgv with hgv; omega
  · have hg4 : Blk w4 g tg cg := row_far ms2.rt.own q2 hgB (by rcases htg with rfl | rfl <;> decide)
    have hg5 : Blk (w4.setCell ⟨ob, 0, none⟩ v2') g tg cg := Blk.grown hg4 hbo (fun e => by injection e with e; exact Blk.ne_ hg4 ms3.out (by rcases htg with rfl | rfl <;> decide) e)
    exact sl_same hsB (Nat.le_trans q2.size hbo.size) (fun ad e => by
      injection e with e; subst e
      exact (hg5 : _ = _).trans (hgB : wb.heap[g]? = _).symm)
section
variable {p b2 Dt n S2 : Nat} [NeZero p] {s : Fin p} {D D5 : List Int} {wn w5 : World}
theorem Two2.gmB (h : Two2 W2 ob c base sg b2 Dt n s rows rts wv D t AW v1 v2 xs us wn) (hco : c < ob) : Below c W2 wn := h.ms.gm.below (by have := h.ms.hob; have := h.ms.hbs; omega) (Nat.le_refl _) (Nat.le_of_lt hco)
theorem Two2.chain (h : Two2 W2 ob c base sg b2 Dt n s rows rts wv D t AW v1 v2 xs us wn) (hF : Fld W2 S2 b2 p) (hS2 : S2 ≤ c) (hco : c < ob) (hC5 : Chn w5 c sg D5) (hg5 : wn.grownBy w5 (some c)) : Two2 W2 ob c base sg b2 Dt n s rows rts wv D5 t AW v1 v2 xs us w5 := by
  obtain ⟨v, hv⟩ := h.chn.obj
  have ms5 := h.ms.chain hg5 hv (by decide) (by decide)
  have hF5 : Fld w5 S2 b2 p := hF.keep (fun q hq => World.cell?_of_block (ms5.gm.block _ (by have := hF.le; omega) (by omega) (by omega))) ms5.gm.size
  have hne := h.chn.dom_ne h.dom
  exact ⟨ms5, hC5, h.dom.held (hF5.moreS hF5.le (Nat.le_refl _)) (Nat.lt_of_lt_of_le h.dom.lt hg5.size) (hg5.block Dt h.dom.lt (fun e => by injection e with e; exact hne e)), h.n1, h.n2⟩
theorem Two2.below (h : Two2 W2 ob c base sg b2 Dt n s rows rts wv D t AW v1 v2 xs us wn) (hb : Below wn.heap.size wn w5) : Two2 W2 ob c base sg b2 Dt n s rows rts wv D t AW v1 v2 xs us w5 :=
  ⟨h.ms.below hb, h.chn.below hb, (h.dom.below hb (Nat.le_refl _)).upS hb.size (Nat.le_refl _), h.n1, h.n2⟩
theorem Two2.word (h : Two2 W2 ob c base sg b2 Dt n s rows rts wv D t AW v1 v2 xs us wn) {b m cp : Nat} {A : Option Addr} {wv' : List Int} (ho : Own wn b (.slice A m cp) wv') : Two2 W2 ob c base sg b2 Dt n s rows rts wv' D t A v1 v2 xs us wn := ⟨h.ms.word ho, h.chn, h.dom, h.n1, h.n2⟩
theorem Two2.half (h : Two2 W2 ob c base sg b2 Dt n s rows rts wv D t AW v1 v2 xs us wn) (hb : Below wn.heap.size wn w5) {D' n2 : Nat} {s2 : Fin p} (hd : Dom w5 w5.heap.size D' b2 p n2 s2) (hD : wn.heap.size ≤ D') : Two2 W2 ob c base sg b2 D' n2 s2 rows rts wv D t AW v1 v2 xs us w5 :=
  ⟨h.ms.below hb, h.chn.below hb, hd, fun g hg => by have := (World.ownsRow.lt h.ms.tabs.own g hg).2; omega, fun g hg => by have := (World.ownsRow.lt h.ms.rt.own g hg).2; omega⟩
end
theorem rowsL_two (w : List Int) (h : Nat) : ∀ l ∈ rowsL w h, l.length = 2 := fun l hl => by
  obtain ⟨i, _, rfl⟩ := List.mem_map.1 hl
  rfl
theorem rowsL_i64 {w : List Int} (hw : ∀ x ∈ w, I64 x) (h : Nat) : ∀ l ∈ rowsL w h, ∀ x ∈ l, I64 x := fun l hl x hx => by
  obtain ⟨i, _, rfl⟩ := List.mem_map.1 hl
  have g : ∀ k, I64 (w.getD k 0) := fun k => by
    rw [List.getD_eq_getElem?_getD]
    rcases h : w[k]? with _ | y
    · exact ⟨by decide, by decide⟩
    · exact hw y (List.mem_of_getElem? h)
  rcases List.mem_cons.1 hx with rfl | hx
  · exact g _
  · rcases List.mem_cons.1 hx with rfl | hx
    · exact g _
    · cases hx
theorem i64_draw {p : Nat} [NeZero p] (hp : p ≤ 2147483647) (kk : Nat) (D : List Int) : I64 ((drawnL p kk D).getD 0 0) := by
  rw [List.getD_eq_getElem?_getD]
  rcases h : (drawnL p kk D)[0]? with _ | y
  · exact ⟨by decide, by decide⟩
  · exact i64_digL hp _ y (List.mem_of_getElem? h)
end
/-- the places that are drawn -/
noncomputable def plM (p kk : Nat) [NeZero p] (s : Fin p) (e : Nat) (word D : List Int) (R a : Nat) : List Int := placesL p kk (dLM p kk s e word D R) ((nI e 1 : Nat) : Int) a
/-- what is handed back: all of it, the places, the chain -/
def MkIs (p kk c sg : Nat) [NeZero p] (s : Fin p) (e R : Nat) (word D : List Int) (a : Nat) (w : World) (ee : Ending) (w' : World) : Prop :=
  ∃ (AR : Option Addr) (nR : Nat) (AL : Option Addr) (nL cL : Nat) (AO : Option Addr) (nO : Nat) (v : Value), ee = .returned (.tuple #[.agg #[.slice AR nR nR, .slice AL nL cL, .slice AO nO nO], v, .nilIface]) ∧
    (∀ w'', SafeO w' w'' → FAt w'' AR nR nR AL nL cL AO nO nO (fldM p kk s e word D R (plM p kk s e word D R a))) ∧
    (∀ k, k < R → ∃ (ao : Addr) (A0 : Option Addr) (n0 c0 : Nat) (BR : Option Addr) (mR dR : Nat) (BN : Option Addr) (mN dN : Nat), AO = some ao ∧ ∀ w'', SafeO w' w'' → w''.cell? (ao.add (k * 3)) = some (.slice A0 n0 c0) ∧ w''.cell? ⟨(ao.add (k * 3)).block, (ao.add (k * 3)).off + 1, none⟩ = some (.slice BR mR dR) ∧ w''.cell? ⟨(ao.add (k * 3)).block, (ao.add (k * 3)).off + 2, none⟩ = some (.slice BN mN dN) ∧ OpnAt w'' A0 n0 c0 (opM p kk s e word D (plM p kk s e word D R a) k).l BR mR dR (opM p kk s e word D (plM p kk s e word D R a) k).rs BN mN dN (opM p kk s e word D (plM p kk s e word D R a) k).ns) ∧
    Own w' w.heap.size v (plM p kk s e word D R a) ∧ Chn w' c sg (iterP p kk (dLM p kk s e word D R) a) ∧ w.grownBy w' (some c)
end Go.Proofs.YtonalbdehcmjmaaGreat

/- fold.Make: what stands behind the rounds, while Openings are made. -/
set_option linter.unusedVariables false
namespace Go.Proofs.YtonalbdehcmjmaaGreat
open Go.RowKit Zp
theorem info_opn : (Tryz.prog.info? 79).map (fun i => (i.zero, i.size, i.bytes)) = some (some (.agg #[.slice none 0 0, .slice none 0 0, .slice none 0 0]), 3, 72) := by kernel_rfl
structure Ph2 (W2 : World) (ob c base sg : Nat) (rows : Nat → List (List Int)) (rts : Nat → List Int) (R : Nat) (last D : List Int) (v1 v2 vL vO vP : Value) (xs us : List Value) (places : List Int) (wr : World) : Prop where
  tabs : Tabs wr base v1 v2 R xs rows
  rt : RT wr base v2 us ((List.range R).map rts)
  last : Own wr base vL last
  pl : Own wr base vP places
  chn : Chn wr c sg D
  out : Blk wr ob 40 #[v2, vL, vO]
  gm : GrowM W2 wr c ob
  hob : ob < base
  hcb : c < base
  hbs : base = W2.heap.size
section
variable {W2 wr w' : World} {ob c base sg R : Nat} {rows : Nat → List (List Int)} {rts : Nat → List Int} {last D D' places : List Int} {v1 v2 vL vO vO' vP : Value} {xs us xo : List Value}
theorem Ph2.size (h : Ph2 W2 ob c base sg rows rts R last D v1 v2 vL vO vP xs us places wr) : base ≤ wr.heap.size := by rw [h.hbs]; exact h.gm.size
theorem Ph2.safe (h : Ph2 W2 ob c base sg rows rts R last D v1 v2 vL vO vP xs us places wr) (hs : Safe wr w') (hk : ∀ g, v1.ownBlock = some g → w'.heap[g]? = wr.heap[g]?) (hC : Chn w' c sg D') (ho : Blk w' ob 40 #[v2, vL, vO']) (hg : GrowM W2 w' c ob) :
    Ph2 W2 ob c base sg rows rts R last D' v1 v2 vL vO' vP xs us places w' := ⟨h.tabs.safe hs hk, h.rt.safe hs, h.last.safe hs, h.pl.safe hs, hC, ho, hg, h.hob, h.hcb, h.hbs⟩
theorem Ph2.below (h : Ph2 W2 ob c base sg rows rts R last D v1 v2 vL vO vP xs us places wr) (hb : Below wr.heap.size wr w') : Ph2 W2 ob c base sg rows rts R last D v1 v2 vL vO vP xs us places w' :=
  h.safe (Safe.of hb) (fun g hg => hb.block g (World.ownsRow.lt h.tabs.own g hg).2) (h.chn.below hb) (Blk.below h.out hb h.out.lt) (h.gm.trans (GrowM.of hb))
theorem Ph2.chain (h : Ph2 W2 ob c base sg rows rts R last D v1 v2 vL vO vP xs us places wr) (hC : Chn w' c sg D') (hg : wr.grownBy w' (some c)) : Ph2 W2 ob c base sg rows rts R last D' v1 v2 vL vO vP xs us places w' := by
  obtain ⟨v, hv⟩ := h.chn.obj
  exact h.safe (Safe.one hg hv (by decide)) (fun g hgv => by
    have h1 := World.ownsRow.lt h.tabs.own g hgv
    exact hg.block g h1.2 (fun e => by injection e with e; have := h.hcb; omega)) hC (Blk.grown h.out hg (fun e => by injection e with e; exact Blk.ne_ h.out hv (by decide) e)) (h.gm.trans (GrowM.one hg))
theorem Ph2.withPl (h : Ph2 W2 ob c base sg rows rts R last D v1 v2 vL vO vP xs us places wr) {vP' : Value} {places' : List Int} (ho : Own wr base vP' places') : Ph2 W2 ob c base sg rows rts R last D v1 v2 vL vO vP' xs us places' wr :=
  ⟨h.tabs, h.rt, h.last, ho, h.chn, h.out, h.gm, h.hob, h.hcb, h.hbs⟩
theorem Ph2.gmB (h : Ph2 W2 ob c base sg rows rts R last D v1 v2 vL vO vP xs us places wr) (hco : c < ob) : Below c W2 wr := h.gm.below (by have := h.hob; have := h.hbs; omega) (Nat.le_refl _) (Nat.le_of_lt hco)
/-- an Opening more is written behind the others, and the table is put away -/
theorem Ph2.app (h : Ph2 W2 ob c base sg rows rts R last D v1 v2 vL vO vP xs us places wr) {t base2 : Nat} (hb2 : base ≤ base2) (ho : wr.ownsRow base2 79 3 vO t xo) (hg : wr.grownBy w' vO.ownBlock) : Ph2 W2 ob c base sg rows rts R last D v1 v2 vL vO' vP xs us places (w'.setCell ⟨ob, 2, none⟩ vO') ∧ Blk w' ob 40 #[v2, vL, vO] ∧ Safe w' (w'.setCell ⟨ob, 2, none⟩ vO') ∧ w'.grownBy (w'.setCell ⟨ob, 2, none⟩ vO') (some ob) := by
  have hs1 := row_safe ho hg (by decide)
  have hB1 : Blk w' ob 40 #[v2, vL, vO] := row_far ho hg h.out (by decide)
  have hC1 := h.chn.row ho hg (by have := h.hcb; omega) (by decide)
  have hg2 : w'.grownBy (w'.setCell ⟨ob, 2, none⟩ vO') (some ob) := blk_grown
  have hs2 := Safe.one hg2 hB1 (by decide)
  have hcob : c ≠ ob := by
    obtain ⟨v, hv⟩ := hC1.obj
    exact Blk.ne_ hv hB1 (by decide)
  refine ⟨h.safe (hs1.trans hs2) (fun g hgv => ?_) (hC1.hold hs2 (hg2.block c hC1.lt (fun e => by injection e with e; exact hcob e))) (Blk.set_ hB1 2 vO') ((h.gm.row hg (fun g hg => by have := (World.ownsRow.lt ho g hg).1; have := h.hbs; omega)).trans (GrowM.two hg2)), hB1, hs2, hg2⟩
  obtain ⟨cs, hcs⟩ := row_blk h.tabs.own hgv
  have h1 := row_far ho hg hcs (by decide)
  have h2 := World.ownsRow.lt h.tabs.own g hgv
  rw [hg2.block g (Nat.lt_of_lt_of_le h2.2 hg.size) (fun e => by injection e with e; have := h.hob; omega)]
  exact (h1 : w'.heap[g]? = _).trans (hcs : wr.heap[g]? = _).symm
/-- behind the rounds: the last polynomial is put away -/
theorem Two2.done {p b2 Dt n : Nat} [NeZero p] {s : Fin p} {wv : List Int} {AW : Option Addr} {t b5 : Nat} (h : Two2 W2 ob c base sg b2 Dt n s rows rts wv D t AW v1 v2 xs us wr) (hb : Below wr.heap.size wr w') (ho : Own w' b5 vL last) (hb5 : base ≤ b5) :
    Ph2 W2 ob c base sg rows rts t last D v1 v2 vL (.slice none 0 0) (.slice none 0 0) xs us [] (w'.setCell ⟨ob, 1, none⟩ vL) ∧ Blk w' ob 40 #[v2, .slice none 0 0, .slice none 0 0] := by
  have h1 := h.below hb
  have hg2 : w'.grownBy (w'.setCell ⟨ob, 1, none⟩ vL) (some ob) := blk_grown
  have hs2 := Safe.one hg2 h1.ms.out (by decide)
  have hcob : c ≠ ob := by
    obtain ⟨v, hv⟩ := h1.chn.obj
    exact Blk.ne_ hv h1.ms.out (by decide)
  refine ⟨⟨h1.ms.tabs.safe hs2 (fun g hgv => ?_), h1.ms.rt.safe hs2, (ho.more hb5).safe hs2, World.ownsRow_nil _ _ _ _, h1.chn.hold hs2 (hg2.block c h1.chn.lt (fun e => by injection e with e; exact hcob e)), Blk.set_ h1.ms.out 1 vL, h1.ms.gm.trans (GrowM.two hg2), h1.ms.hob, h1.ms.hcb, h1.ms.hbs⟩, h1.ms.out⟩
  have h2 := World.ownsRow.lt h1.ms.tabs.own g hgv
  exact hg2.block g h2.2 (fun e => by injection e with e; have := h1.ms.hob; omega)
/-- the Openings of the table stay where they are -/
theorem CopS.okeep {wf : World} {base nO cO R : Nat} {AO : Option Addr} {xs : List Value} {opens : Nat → OpnI} (hc : CopS base wf (.slice AO nO cO) R xs opens) : ∀ k, k < R → ∃ (ao : Addr) (A0 : Option Addr) (n0 c0 : Nat) (BR : Option Addr) (mR dR : Nat) (BN : Option Addr) (mN dN : Nat), AO = some ao ∧ ∀ w'', SafeO wf w'' → w''.cell? (ao.add (k * 3)) = some (.slice A0 n0 c0) ∧ w''.cell? ⟨(ao.add (k * 3)).block, (ao.add (k * 3)).off + 1, none⟩ = some (.slice BR mR dR) ∧ w''.cell? ⟨(ao.add (k * 3)).block, (ao.add (k * 3)).off + 2, none⟩ = some (.slice BN mN dN) ∧ OpnAt w'' A0 n0 c0 (opens k).l BR mR dR (opens k).rs BN mN dN (opens k).ns := fun k hk => by
  have hO : ∃ g, AO = some ⟨g, 0, none⟩ := by
    rcases hc.own.2 with ⟨e, h0⟩ | ⟨g, cap, cur, e, _⟩
    · omega
    · injection e with e1 e2 e3
      exact ⟨g, e1⟩
  obtain ⟨g, hgO⟩ := hO
  obtain ⟨A0, n0, c0, BR, mR, dR, BN, mN, dN, q1, q2, q3, q7⟩ := hc.at_ k hk
  refine ⟨_, A0, n0, c0, BR, mR, dR, BN, mN, dN, hgO, fun w'' hw => ?_⟩
  have hown : w''.ownsRow base 79 3 (.slice AO nO cO) R xs := ownsRow_keep hc.own (fun g hg => by
    obtain ⟨cs, hcs⟩ := row_blk hc.own hg
    exact hw.2 g cs hcs)
  have hcl := World.ownsRow.cells hown (g := g) (by rw [hgO]; rfl)
  have d1 : (⟨g, 0, none⟩ : Addr).add (k * 3 + 1) = ⟨((⟨g, 0, none⟩ : Addr).add (k * 3)).block, ((⟨g, 0, none⟩ : Addr).add (k * 3)).off + 1, none⟩ := by rw [← add_of_add]; simp [Addr.add]
  have d2 : (⟨g, 0, none⟩ : Addr).add (k * 3 + 2) = ⟨((⟨g, 0, none⟩ : Addr).add (k * 3)).block, ((⟨g, 0, none⟩ : Addr).add (k * 3)).off + 2, none⟩ := by rw [← add_of_add]; simp [Addr.add]
  exact ⟨hcl _ _ q1, by rw [← d1]; exact hcl _ _ q2, by rw [← d2]; exact hcl _ _ q3, q7 w'' hw.1⟩
theorem CopS.safeO {base t : Nat} {wr w2 : World} {v : Value} {xs : List Value} {opens : Nat → OpnI} (h : CopS base wr v t xs opens) (hs : SafeO wr w2) : CopS base w2 v t xs opens := h.safe hs.1 fun g hg => by
  obtain ⟨cs, hcs⟩ := row_blk h.own hg
  exact hs.2 g cs hcs
end
theorem row_cap {w : World} {base n c m : Nat} {e : TypeId} {sz : Nat} {A : Option Addr} {xs : List Value} (h : w.ownsRow base e sz (.slice A n c) m xs) : n = m ∧ n ≤ c ∧ c ≤ maxLen ∧ (A = none → c = 0) := by
  rcases h.2 with ⟨e1, h0⟩ | ⟨g, cap, cur, e1, _, _, h4, h5, _⟩
  · injection e1 with e1 e2 e3
    subst e1 e2 e3
    exact ⟨h0.symm, Nat.le_refl _, by simp [maxLen], fun _ => rfl⟩
  · injection e1 with e1 e2 e3
    subst e1 e2 e3
    exact ⟨rfl, h4, h5, fun h => by cases h⟩
section
variable {p : Nat} [NeZero p]
/-- the end: two lists are clipped, all of it is put away -/
theorem mk_fin {kk c sg ob : Nat} {s : Fin p} {e R a : Nat} {word D0 : List Int} {w W2 wr : World} {v1 : Value} {A2 A5 AO AP : Option Addr} {n2 c2 n5 c5 nO cO nP cP : Nat} {xs us xo : List Value} (hp : p ≤ 2147483647)
    (hW : Below w.heap.size w W2) (hwo : w.heap.size < ob) (hcw : c < w.heap.size) (hR : R ≤ 64) (hn5 : (lastM p kk s e word D0 R).length ≤ 65536)
    (h : Ph2 W2 ob c W2.heap.size sg (fun t => rowsL (wM p kk s e word D0 t) (nI e (t + 1))) (rM p kk s e word D0) R (lastM p kk s e word D0 R) (iterP p kk (dLM p kk s e word D0 R) a) v1 (.slice A2 n2 c2) (.slice A5 n5 c5) (.slice AO nO cO) (.slice AP nP cP) xs us (plM p kk s e word D0 R a) wr)
    (hc : CopS W2.heap.size wr (.slice AO nO cO) R xo (opM p kk s e word D0 (plM p kk s e word D0 R a))) (hX : Blk W2 w.heap.size 40 #[.slice none 0 0, .slice none 0 0, .slice none 0 0]) :
    Blk ((wr.setCell ⟨ob, 0, none⟩ (.slice A2 n2 n2)).setCell ⟨ob, 2, none⟩ (.slice AO nO nO)) ob 40 #[.slice A2 n2 n2, .slice A5 n5 c5, .slice AO nO nO] ∧ Blk ((wr.setCell ⟨ob, 0, none⟩ (.slice A2 n2 n2)).setCell ⟨ob, 2, none⟩ (.slice AO nO nO)) w.heap.size 40 #[.slice none 0 0, .slice none 0 0, .slice none 0 0] ∧
    Blk (((((wr.setCell ⟨ob, 0, none⟩ (.slice A2 n2 n2)).setCell ⟨ob, 2, none⟩ (.slice AO nO nO)).setCell ⟨w.heap.size, 0, none⟩ (.slice A2 n2 n2)).setCell ⟨w.heap.size, 1, none⟩ (.slice A5 n5 c5)).setCell ⟨w.heap.size, 2, none⟩ (.slice AO nO nO)) w.heap.size 40 #[.slice A2 n2 n2, .slice A5 n5 c5, .slice AO nO nO] ∧
    MkIs p kk c sg s e R word D0 a w (.returned (.tuple #[.agg #[.slice A2 n2 n2, .slice A5 n5 c5, .slice AO nO nO], .slice AP nP cP, .nilIface])) (((((wr.setCell ⟨ob, 0, none⟩ (.slice A2 n2 n2)).setCell ⟨ob, 2, none⟩ (.slice AO nO nO)).setCell ⟨w.heap.size, 0, none⟩ (.slice A2 n2 n2)).setCell ⟨w.heap.size, 1, none⟩ (.slice A5 n5 c5)).setCell ⟨w.heap.size, 2, none⟩ (.slice AO nO nO)).drew := by
  obtain ⟨w9, hw9⟩ : ∃ w9, w9 = (wr.setCell ⟨ob, 0, none⟩ (.slice A2 n2 n2)).setCell ⟨ob, 2, none⟩ (.slice AO nO nO) := ⟨_, rfl⟩
  have hgw : w.heap.size < W2.heap.size := hX.lt
  have hob := h.hob
  have hB9 : Blk w9 ob 40 #[.slice A2 n2 n2, .slice A5 n5 c5, .slice AO nO nO] := by rw [hw9]; exact Blk.set_ (Blk.set_ h.out 0 (.slice A2 n2 n2)) 2 (.slice AO nO nO)
  have hg9 : wr.grownBy w9 (some ob) := by rw [hw9]; exact grownBy_trans blk_grown blk_grown
  have hXr : Blk wr w.heap.size 40 #[.slice none 0 0, .slice none 0 0, .slice none 0 0] := (h.gm.block _ hgw (by omega) (by omega)).trans hX
  have hX9 : Blk w9 w.heap.size 40 #[.slice none 0 0, .slice none 0 0, .slice none 0 0] := Blk.grown hXr hg9 (fun e => by injection e with e; omega)
  rw [← hw9]
  obtain ⟨hset, hgr⟩ := blk_set3 hX9 (.slice A2 n2 n2) (.slice A5 n5 c5) (.slice AO nO nO)
  obtain ⟨wf, hwf⟩ : ∃ wf, wf = ((w9.setCell ⟨w.heap.size, 0, none⟩ (.slice A2 n2 n2)).setCell ⟨w.heap.size, 1, none⟩ (.slice A5 n5 c5)).setCell ⟨w.heap.size, 2, none⟩ (.slice AO nO nO) := ⟨_, rfl⟩
  rw [← hwf] at hset hgr ⊢
  have s1 : SafeO wr w9 := SafeO.one hg9 h.out (by decide) (by decide)
  have s2 : SafeO w9 wf := SafeO.one hgr hX9 (by decide) (by decide)
  have s3 : SafeO wf wf.drew := SafeO.of (bz0 wf)
  have sA := (s1.trans s2).trans s3
  have hcob : c ≠ ob := by omega
  refine ⟨hB9, hX9, hset, A2, n2, A5, n5, c5, AO, nO, _, rfl, fun w'' hk => ?_, fun k hk => ?_, (h.pl.more (Nat.le_of_lt hgw)).safe sA.1, ?_, ?_⟩
  · exact made_fin h.rt (by simp) hR h.last hn5 (fun x hx => by
      obtain ⟨y, _, rfl⟩ := List.mem_map.1 hx
      exact i64_fv _ hp) hc w'' (sA.trans hk)
  · obtain ⟨ao, A0, n0, c0, BR, mR, dR, BN, mN, dN, e1, e2⟩ := hc.okeep k hk
    exact ⟨ao, A0, n0, c0, BR, mR, dR, BN, mN, dN, e1, fun w'' hk => e2 w'' (sA.trans hk)⟩
  · have c1 := h.chn.hold s1.1 (hg9.block c h.chn.lt (fun e => by injection e with e; exact hcob e))
    have c2 := c1.hold s2.1 (hgr.block c c1.lt (fun e => by injection e with e; omega))
    exact c2.drewN 1
  · have g1 := growM_grown hW h.gm (Nat.le_of_lt hwo)
    have g2 := grown_any g1 hg9 (fun g hg => by injection hg with hg; omega)
    have g3 := grown_any g2 hgr (fun g hg => by injection hg with hg; omega)
    exact grownBy_trans g3 (grown_of_below (bz0 wf) (some c))
end
end Go.Proofs.YtonalbdehcmjmaaGreat
