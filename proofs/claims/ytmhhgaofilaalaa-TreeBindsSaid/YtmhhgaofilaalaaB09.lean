/- A bundle of texts: Tz, Eq, Cl, LawN4, Oa. -/
import Derived.Test.YtmhhgaofilaalaaB00
import Derived.Test.YtmhhgaofilaalaaB06
import Derived.Test.YtmhhgaofilaalaaB08
import Derived.Test.YtmhhgaofilaalaaB04
import Derived.Test.YtmhhgaofilaalaaB03
import Derived.Test.YtmhhgaofilaalaaB02
import Derived.Lib.SmallJoins
import Derived.ChangeOld
import Derived.Below
import Derived.OpenShut
/- Plain: two Openings that are both taken by one root: what tree.Collide finds. -/
set_option linter.unusedVariables false
namespace Go.Proofs.Ytmhhgaofilaalaa
open Go.RowKit Zp
section
variable {p k : Nat} [NeZero p]
/-- digests are elements -/
def ElF (p : Nat) [NeZero p] (f : GF) : Prop := ∀ a m d, f a m = some d → fvs (els p d) = d
theorem ElF.upd {f : GF} (h : ElF p f) (a m : Nat) {v : List Int} (hv : fvs (els p v) = v) : ElF p (updF f a m v) := fun a' m' d hd => by
  unfold updF at hd
  split at hd
  · injection hd with hd; rw [← hd]; exact hv
  · exact h a' m' d hd
theorem workW_el {H E : List Int → List Int} {row : Nat → List Int} {places : List Int} (hH : ∀ l, fvs (els p (H l)) = H l) (hE : ∀ l, fvs (els p (E l)) = E l) :
    ∀ (n a : Nat) (s : GF × GF) (ns : List (List Int)), ElF p s.1 → ElF p (workW H E row places a n s ns).1.1 := by
  intro n
  induction n using Nat.strongRecOn with
  | ind n ih =>
    intro a s ns h4
    by_cases hs : shownB places a n = true
    · by_cases h : 2 ≤ n
      · have hl := leftN_lt h
        have h1 := ih (leftN n) (by omega) a s ns h4
        have h2 := ih (n - leftN n) (by omega) (a + leftN n) _ (workW H E row places a (leftN n) s ns).2 h1
        rw [workW_two H E row places s ns hs h]
        exact h2.upd a n (hH _)
      · rw [workW_one H E row places s ns hs h]
        exact h4.upd a n (hH _)
    · rw [workW_no H E row places s ns (by simpa using hs)]
      exact h4.upd a n (hE _)
/-- what is known of an Opening that is taken -/
structure TreeK (p k : Nat) [NeZero p] (l : List Int) (rs : List (List Int)) (N : Nat) (fD fL : GF) : Prop where
  grp : ∀ b m, SubG 0 N b m → GroupIs (digL p k) (fun i => fvs (els p (rowAt l rs i))) l fD fL b m
  four : Four fD
  el : ElF p fD
theorem treeK_of {l : List Int} {rs ns : List (List Int)} {top : List Int} {N : Nat} (h : TakenP p k l rs ns top N) :
    TreeK p k l rs N (workE p k l rs ns N).1.1 (workE p k l rs ns N).1.2 ∧ (workE p k l rs ns N).1.1 0 N = some (fvs (els p top)) := by
  obtain ⟨h1, h2, h3, h4, h5, h6, h7⟩ := h
  rw [Int.toNat_natCast] at h5 h7
  have hN : 1 ≤ N := by omega
  refine ⟨⟨fun b m hs => workW_known _ _ _ _ N 0 _ ns hN (fun _ _ _ => rfl) b m hs, workW_four (fun l => digL_len _ _) (fun l hl => by simpa [fvs, els] using hl) N 0 _ ns hN (fun a m d hd => by cases hd) h6 (by omega), workW_el els_digL (fun l => by rw [els_fvs]) N 0 _ ns (fun a m d hd => by cases hd)⟩, ?_⟩
  have hc := (workW_climb (digL p k) (fun x => fvs (els p x)) (fun i => fvs (els p (rowAt l rs i))) l N 0 (fun _ _ => none, fun _ _ => none) ns hN).1
  rw [h7] at hc
  exact hc
theorem el_zero' (h2 : 2 ≤ p) : fv (el p 0) = 0 := by rw [fv_el]; rfl
theorem el_one' (h2 : 2 ≤ p) : fv (el p 1) = 1 := by rw [fv_el]; exact Int.emod_eq_of_lt (by omega) (by omega)
theorem fvs_els_cons (x : Int) (l : List Int) : fvs (els p (x :: l)) = fv (el p x) :: fvs (els p l) := by simp [fvs, els]
theorem fvs_els_app (l m : List Int) : fvs (els p (l ++ m)) = fvs (els p l) ++ fvs (els p m) := by simp [fvs, els]
section
variable {l : List Int} {rs : List (List Int)} {N : Nat} {fD fL : GF} (T : TreeK p k l rs N fD fL)
include T
theorem TreeK.row {j : Nat} (hj : (j : Int) ∈ l) (hN : j < N) : fL j 1 = some (0 :: fvs (els p (rowAt l rs j))) := by
  have g := T.grp j 1 (SubG.row N 0 j (by omega) (by omega))
  obtain ⟨L, h1, _, h3, _⟩ := g.1 (shown_row.2 hj)
  rw [h1, h3 rfl]
theorem TreeK.norow {j : Nat} (hj : ¬ (j : Int) ∈ l) (hN : j < N) : fL j 1 = none := by
  have g := T.grp j 1 (SubG.row N 0 j (by omega) (by omega))
  exact g.2 (by rw [Bool.eq_false_iff]; exact fun h => hj (shown_row.1 h))
/-- lists are elements, and of a length -/
theorem TreeK.lists (h2 : 2 ≤ p) (hr : ∀ t ∈ rs, t.length * 8 ≤ 140737488351232) {b m : Nat} (hs : SubG 0 N b m) (hN : 1 ≤ N) {L : List Int} (hL : fL b m = some L) : fvs (els p L) = L ∧ L.length ≤ 17592186044000 := by
  have g := T.grp b m hs
  have hm := hs.in_.2.2 hN
  cases hsh : shownB l b m with
  | false => rw [g.2 hsh] at hL; cases hL
  | true =>
    obtain ⟨L', h1, _, h3, h4⟩ := g.1 hsh
    rw [hL] at h1
    injection h1 with h1
    subst h1
    by_cases h : m = 1
    · rw [h3 h, fvs_els_cons, el_zero' h2, els_fvs]
      refine ⟨rfl, ?_⟩
      rw [List.length_cons, fvs_els_len]
      unfold rowAt
      rw [List.getD_eq_getElem?_getD]
      cases hx : rs[lowB l b]? with
      | none => simp
      | some t =>
        have := hr t (List.mem_of_getElem? hx)
        simp
        omega
    · obtain ⟨x, y, e1, e2, e3⟩ := h4 (by omega)
      rw [e3, fvs_els_cons, el_one' h2, fvs_els_app, T.el _ _ _ e1, T.el _ _ _ e2]
      refine ⟨rfl, ?_⟩
      have := T.four _ _ _ e1
      have := T.four _ _ _ e2
      simp
      omega
end
/-- two lists with one digest -/
def Coll (p k : Nat) [NeZero p] (X Y : List Int) : Prop := X ≠ Y ∧ digL p k X = digL p k Y ∧ fvs (els p X) = X ∧ fvs (els p Y) = Y
theorem Coll.apart {X Y : List Int} (h : Coll p k X Y) : sameE p X Y = false := eqB_false (by rw [h.2.2.1, h.2.2.2]; exact h.1)
section
variable {la lb : List Int} {ra rb : List (List Int)} {N : Nat} {fDa fLa fDb fLb : GF} (Ta : TreeK p k la ra N fDa fLa) (Tb : TreeK p k lb rb N fDb fLb)
include Ta Tb
/-- on the way down -/
theorem coll_here (h2 : 2 ≤ p) (hra : ∀ t ∈ ra, t.length * 8 ≤ 140737488351232) (hrb : ∀ t ∈ rb, t.length * 8 ≤ 140737488351232) {b m j : Nat} (hs : SubG 0 N b m) (hN : 1 ≤ N) (ja : (j : Int) ∈ la) (jb : (j : Int) ∈ lb) (h1 : b ≤ j) (h3 : j < b + m) (hf : fDa b m = fDb b m) :
    ∃ X Y, fLa b m = some X ∧ fLb b m = some Y ∧ fDa b m = some (digL p k X) ∧ fDb b m = some (digL p k Y) ∧ digL p k X = digL p k Y ∧ X.length ≤ 17592186044000 ∧ Y.length ≤ 17592186044000 ∧ (X ≠ Y → Coll p k X Y) ∧
      (X = Y → 2 ≤ m → fDa b (leftN m) = fDb b (leftN m) ∧ fDa (b + leftN m) (m - leftN m) = fDb (b + leftN m) (m - leftN m)) := by
  obtain ⟨X, Y, e1, e2, e3, e4, e5⟩ := down_found (Ta.grp b m hs) (Tb.grp b m hs) ja jb h1 h3 hf
  have xa := Ta.lists h2 hra hs hN e1
  have xb := Tb.lists h2 hrb hs hN e2
  refine ⟨X, Y, e1, e2, e3, e4, e5, xa.2, xb.2, fun h => ⟨h, e5, xa.1, xb.1⟩, fun h hm => ?_⟩
  exact down_step (Ta.grp b m hs) (Tb.grp b m hs) ja jb h1 h3 hm Ta.four Tb.four (by rw [e1, e2, h])
omit Tb
end
end
theorem rowAt_get {l : List Int} {rs : List (List Int)} (hl : Asc l) (hr : rs.length = l.length) {i j : Nat} (hi : i < l.length) (hj : l[i] = (j : Int)) : rowAt l rs j = rs[i] := by
  have hs : shownB l j 1 = true := shown_row.2 (by rw [← hj]; exact List.getElem_mem hi)
  obtain ⟨h1, h2⟩ := shown_one hl j hs
  have e : lowB l j = i := by
    rw [List.getElem?_eq_getElem h1] at h2
    injection h2 with h2
    rcases Nat.lt_trichotomy (lowB l j) i with h | h | h
    · have := hl.at_lt h hi; omega
    · exact h
    · have := hl.at_lt h h1; omega
  unfold rowAt
  rw [e, List.getD_eq_getElem?_getD, List.getElem?_eq_getElem (by omega), Option.getD_some]
/-- a place that both show, each with a row of its own -/
def ApartAt (p : Nat) [NeZero p] (la : List Int) (ra : List (List Int)) (lb : List Int) (rb : List (List Int)) (i : Nat) : Prop :=
  ∃ j : Nat, la[i]? = some (j : Int) ∧ (j : Int) ∈ lb ∧ fvs (els p (rowAt la ra j)) ≠ fvs (els p (rowAt lb rb j))
end Go.Proofs.Ytmhhgaofilaalaa

/- slices.Equal, of two lists of ints, wherever they lie. -/
set_option linter.unusedVariables false
namespace Go.Proofs.Ytmhhgaofilaalaa
open Go.RowKit
def EqualRel (xs ys : List Int) (w : World) (i : Value) (wr : World) : Prop := ∃ k : Nat, k ≤ xs.length ∧ i = vi k ∧ xs.take k = ys.take k ∧ ∃ j, wr = w.drewN j

set_option maxHeartbeats 1000000 in
theorem equal_any (A B : Option Addr) (c d : Nat) (xs ys : List Int) (hx : xs.length ≤ 9223372036854775807) (hy : ys.length ≤ 9223372036854775807) (w : World) (hsx : SL w A xs) (hsy : SL w B ys) :
    Calls Try.prog 20 #[.slice A xs.length c, .slice B ys.length d] w fun e w' => e = .returned (.bool (eqB xs ys)) ∧ ∃ k, w' = w.drewN k := by
  obtain ⟨n, hn⟩ : ∃ n, n = xs.length := ⟨_, rfl⟩
  obtain ⟨m, hm⟩ : ∃ m, m = ys.length := ⟨_, rfl⟩
  rw [← hn, ← hm]
  rw [← hn] at hx
  rw [← hm] at hy
  have HN := Lib.hid hn
  have HM := Lib.hid hm
  clear hn hm
  by_cases hnm : n = m
  · have t1 : ((n : Int) != (m : Int)) = false := by rw [bne_eq_false_iff_eq]; omega
    have HNM := Lib.hid hnm
    clear hnm
    go_enter Try.func20, Try.ntmps20
    go_wp2
    go_loopw [13] (fun i wr => EqualRel xs ys w i wr) (fun i _ => n - (intOf i).toNat)
    case atStart => exact ⟨0, Nat.zero_le _, rfl, by simp, 0, rfl⟩
    case round =>
      obtain ⟨k, hk, rfl, heq, j, rfl⟩ := hrel
      rw [← HN.out] at hk
      have HEQ := Lib.hid heq
      clear heq
      by_cases hlt : k < n
      · have hkm : k < m := by rw [← HNM.out]; exact hlt
        have hkx : k < xs.length := by rw [← HN.out]; exact hlt
        have hky : k < ys.length := by rw [← HM.out]; exact hkm
        obtain ⟨ad, rfl, _, hc1⟩ := (hsx.drewN j).at_ hkx
        obtain ⟨bd, rfl, _, hc2⟩ := (hsy.drewN j).at_ hky
        have i1 : (0 : Int) ≤ k := by omega
        have i2 : (k : Int) < n := by omega
        have i3 : (k : Int) < m := by omega
        have htk : xs.take (k + 1) = xs.take k ++ [xs[k]] := List.take_succ_eq_append_getElem hkx
        have hty : ys.take (k + 1) = ys.take k ++ [ys[k]] := List.take_succ_eq_append_getElem hky
        obtain ⟨x, hxk⟩ : ∃ x, x = xs[k] := ⟨_, rfl⟩
        obtain ⟨y, hyk⟩ : ∃ y, y = ys[k] := ⟨_, rfl⟩
        rw [← hxk] at hc1 htk
        rw [← hyk] at hc2 hty
        rw [World.cell?_drewN] at hc1 hc2
        by_cases hxy : x = y
        · have t2 : (x != y) = false := by rw [hxy]; simp
          have h2 : xs.take (k + 1) = ys.take (k + 1) := by rw [htk, hty, HEQ.out, hxy]
          have H2 := Lib.hid h2
          clear h2 hxy htk hty hxk hyk
          go_wp2
          go_quiet (fail)
          go_wp2
          go_roundw
          case rel => exact ⟨k + 1, by rw [← HN.out]; omega, by go_num, H2.out, _, rfl⟩
          case measure => simp [intOf]; omega
        · have t2 : (x != y) = true := by rw [bne_iff_ne]; exact hxy
          have h2 : eqB xs ys = false := eqB_false fun e => by
            subst e
            exact hxy (by rw [hxk, hyk])
          have H2 := Lib.hid h2
          clear h2 hxy htk hty hxk hyk
          go_wp2
          go_quiet (fail)
          go_wp2
          go_ret
          exact ⟨ret_bool H2.out.symm, _, World.drewN_drewN _ _ _⟩
      · obtain rfl : k = n := by omega
        have h2 : eqB xs ys = true := eqB_true (by
          have := HEQ.out
          rwa [List.take_of_length_le (by rw [← HN.out]; exact Nat.le_refl _), List.take_of_length_le (by rw [← HM.out, ← HNM.out]; exact Nat.le_refl _)] at this)
        have H2 := Lib.hid h2
        clear h2
        go_wp2
        go_ret
        exact ⟨ret_bool H2.out.symm, _, rfl⟩
  · have t1 : ((n : Int) != (m : Int)) = true := by rw [bne_iff_ne]; omega
    have h2 : eqB xs ys = false := eqB_false fun e => hnm (by rw [HN.out, HM.out, e])
    have H2 := Lib.hid h2
    clear h2 hnm
    go_enter Try.func20, Try.ntmps20
    go_wp2
    go_ret
    exact ⟨ret_bool H2.out.symm, 0, rfl⟩
end Go.Proofs.Ytmhhgaofilaalaa

/- The walk of tree.Collide. -/
set_option linter.unusedVariables false
namespace Go.Proofs.Ytmhhgaofilaalaa
open Go.RowKit Zp Go.MapKept Go.ChangeMaps
/-- m[g] of the lists -/
theorem LMap.find {w : World} {bL : Nat} {fL : GF} (h : LMap w bL fL) {a m : Nat} (h1 : 1 ≤ m) (h2 : a + m ≤ 65536) {l : List Int} (hl : fL a m = some l) :
    ∃ ad n c, l.length = n ∧ SL w (some ad) l ∧ (∀ x ∈ l, I64 x) ∧ ∀ w', Below w.heap.size w w' → (Instr.lookup 56 (.map (some bL)) (.agg #[vi (a : Int), vi ((a + m : Nat) : Int)]) false).run Try.prog w' = .ok (.slice (some ad) n c) w' := by
  have hlt := h.isMap.lt
  obtain ⟨F, h3, h4⟩ := h
  have h5 := h4 a m h1 h2
  rw [hl] at h5
  cases hF : F (Gp a (a + m)) with
  | none => rw [hF] at h5; exact h5.elim
  | some v =>
    rw [hF] at h5
    obtain ⟨A, n, c, rfl, e1, e2, e3, e4, e5⟩ := h5
    obtain ⟨ad, rfl, _⟩ := e4.at_ (k := 0) (by omega)
    refine ⟨ad, n, c, e1, e4, e5, fun w' hb => ?_⟩
    obtain ⟨kl, hkl⟩ := key_gp (a := a) (c := a + m) (by omega)
    have := (h3.same (hb.block _ hlt)).look keyed_group Try.underlying56 (z := .slice none 0 0) (by kernel_rfl) hkl
    rw [hF] at this
    exact this
theorem LMap.none_ {w : World} {bL : Nat} {fL : GF} (h : LMap w bL fL) {a m : Nat} (h1 : 1 ≤ m) (h2 : a + m ≤ 65536) (hl : fL a m = none) :
    ∀ w', Below w.heap.size w w' → (Instr.lookup 56 (.map (some bL)) (.agg #[vi (a : Int), vi ((a + m : Nat) : Int)]) false).run Try.prog w' = .ok (.slice none 0 0) w' := fun w' hb => by
  have hlt := h.isMap.lt
  obtain ⟨F, h3, h4⟩ := h
  have h5 := h4 a m h1 h2
  rw [hl] at h5
  cases hF : F (Gp a (a + m)) with
  | some v => rw [hF] at h5; exact h5.elim
  | none =>
    obtain ⟨kl, hkl⟩ := key_gp (a := a) (c := a + m) (by omega)
    have := (h3.same (hb.block _ hlt)).look keyed_group Try.underlying56 (z := .slice none 0 0) (by kernel_rfl) hkl
    rw [hF] at this
    exact this
/-- two lists with one digest are handed back -/
def CollYes (p k : Nat) [NeZero p] (w : World) (e : Ending) (w' : World) : Prop :=
  ∃ X Y A n c B m d, e = .returned (.tuple #[.slice A n c, .slice B m d, .bool true]) ∧ Coll p k X Y ∧ X.length = n ∧ Y.length = m ∧ n ≤ 17592186044000 ∧ m ≤ 17592186044000 ∧ SL w' A X ∧ SL w' B Y ∧ (∀ x ∈ X, I64 x) ∧ (∀ y ∈ Y, I64 y) ∧ Below w.heap.size w w'
def CollNo (w : World) (e : Ending) (w' : World) : Prop := e = .returned (.tuple #[.slice none 0 0, .slice none 0 0, .bool false]) ∧ Below w.heap.size w w'
section
variable (p S b s k z : Nat) [NeZero p] (oo : Nat → Nat → Fin p) (AT : Option Addr) (nT cT : Nat) (top : List Int) {w0 : World} (hT : ArgS w0 AT nT cT top) (n : Int)
    {A0 : Option Addr} {n0 c0 : Nat} {la : List Int} {AR : Option Addr} {nR cR : Nat} {ra : List (List Int)} {AN : Option Addr} {nN cN : Nat} {na : List (List Int)}
    {B0 : Option Addr} {m0 d0 : Nat} {lb : List Int} {BR : Option Addr} {mR dR : Nat} {rb : List (List Int)} {BN : Option Addr} {mN dN : Nat} {nb : List (List Int)}
    (w : World) (F : Fld w S b p) (G : Spg w s b k z oo) (sT : SL w AT top) (hx : OpnAt w A0 n0 c0 la AR nR cR ra AN nN cN na) (hy : OpnAt w B0 m0 d0 lb BR mR dR rb BN mN dN nb)
include hT F G sT hx hy
set_option maxRecDepth 100000 in
set_option maxHeartbeats 2000000 in
theorem collide_no (h : ¬ (takenB p k la ra na top n = true ∧ takenB p k lb rb nb top n = true)) :
    Calls Try.prog 7 #[.pointer (some ⟨s, 0, none⟩), .slice AT nT cT, vi n, .agg #[.slice A0 n0 c0, .slice AR nR cR, .slice AN nN cN], .agg #[.slice B0 m0 d0, .slice BR mR dR, .slice BN mN dN]] w (CollNo w) := by
  have hb0 : Below w.heap.size w ((w.alloc (.cells #[.slice A0 n0 c0, .slice AR nR cR, .slice AN nN cN] 25)).alloc (.cells #[.slice B0 m0 d0, .slice BR mR dR, .slice BN mN dN] 25)) := ((Below.refl _ _).alloc (Nat.le_refl _) _).alloc (by simp) _
  have hB8 := (Blk.new w 25 #[.slice A0 n0 c0, .slice AR nR cR, .slice AN nN cN]).alloc (.cells #[.slice B0 m0 d0, .slice BR mR dR, .slice BN mN dN] 25)
  have hB9 := Blk.new (w.alloc (.cells #[.slice A0 n0 c0, .slice AR nR cR, .slice AN nN cN] 25)) 25 #[.slice B0 m0 d0, .slice BR mR dR, .slice BN mN dN]
  rw [show (w.alloc (.cells #[.slice A0 n0 c0, .slice AR nR cR, .slice AN nN cN] 25)).heap.size = w.heap.size + 1 by simp] at hB9
  obtain ⟨W, hW⟩ : ∃ W, W = ((w.alloc (.cells #[.slice A0 n0 c0, .slice AR nR cR, .slice AN nN cN] 25)).alloc (.cells #[.slice B0 m0 d0, .slice BR mR dR, .slice BN mN dN] 25)) := ⟨_, rfl⟩
  rw [← hW] at hb0 hB8 hB9
  have a0 := (hB8.cell 0).trans (show _ = some (.slice A0 n0 c0) from rfl)
  have a1 := (hB8.cell 1).trans (show _ = some (.slice AR nR cR) from rfl)
  have a2 := (hB8.cell 2).trans (show _ = some (.slice AN nN cN) from rfl)
  have HW := Lib.hid hW
  have HA := Lib.hid (follow_any p S b s k z oo AT nT cT top hT n W (F.below hb0 F.le) (G.below hb0 (block_lt_of_cell G.c0)) (sT.below hb0) (hx.below hb0))
  have HB := Lib.hid (fun V (hb : Below W.heap.size W V) => follow_any p S b s k z oo AT nT cT top hT n V (F.below (hb0.trans (hb.mono hb0.size)) F.le) (G.below (hb0.trans (hb.mono hb0.size)) (block_lt_of_cell G.c0)) (sT.below (hb0.trans (hb.mono hb0.size))) (hy.below (hb0.trans (hb.mono hb0.size))))
  have HB0 := Lib.hid hb0
  have H8 := Lib.hid hB8
  have H9 := Lib.hid hB9
  have HX := Lib.hid hx
  have HY := Lib.hid hy
  clear hW hB8 hB9 hb0 hT F G sT hx hy
  go_enter Try.func7, Try.ntmps7
  go_upto_region 1 with (fail)
  rw [← HW.out]
  go_wp2_with fail
  refine HA.out.mono ?_
  rintro _ w1 ⟨v, rfl, hv, hb1⟩
  have HV := Lib.hid hv
  have HB1 := Lib.hid hb1
  have hB91 := Blk.below H9.out hb1 H9.out.lt
  have b0 := (hB91.cell 0).trans (show _ = some (.slice B0 m0 d0) from rfl)
  have b1 := (hB91.cell 1).trans (show _ = some (.slice BR mR dR) from rfl)
  have b2 := (hB91.cell 2).trans (show _ = some (.slice BN mN dN) from rfl)
  clear hv hb1 a0 a1 a2 hB91
  go_wp2_with fail
  refine (HB.out w1 HB1.out).mono ?_
  rintro _ w2 ⟨u, rfl, hu, hb2⟩
  have HU := Lib.hid hu
  have HB12 := Lib.hid hb2
  have HB2 := Lib.hid (HB0.out.trans ((HB1.out.trans (hb2.mono HB1.out.size)).mono HB0.out.size))
  clear hu hb2 b0 b1 b2
  cases ha : takenB p k la ra na top n with
  | false =>
    clear h ha
    go_wp2
    exact bodyPost_ret (v := .tuple #[.slice none 0 0, .slice none 0 0, .bool false]) (by simp [results, Try.results7, go_sem]) rfl ⟨rfl, HB2.out⟩
  | true =>
    cases hb : takenB p k lb rb nb top n with
    | true => exact absurd ⟨ha, hb⟩ h
    | false =>
      clear h ha hb
      go_wp2
      exact bodyPost_ret (v := .tuple #[.slice none 0 0, .slice none 0 0, .bool false]) (by simp [results, Try.results7, go_sem]) rfl ⟨rfl, HB2.out⟩
end
/-- how many rows a group in memory has -/
def grpM (g : Value) (w : World) : Nat := match g with
  | .pointer (some q) => (intOf ((w.cell? ⟨q.block, 1, none⟩).getD (vi 0))).toNat - (intOf ((w.cell? ⟨q.block, 0, none⟩).getD (vi 0))).toNat
  | _ => 0
theorem grpM_of {w : World} {gb a e : Nat} {t : TypeId} (h : Blk w gb t #[vi (a : Int), vi (e : Int)]) : grpM (.pointer (some ⟨gb, 0, none⟩)) w = e - a := by
  have h0 := (h.cell 0).trans (show _ = some (vi (a : Int)) from rfl)
  have h1 := (h.cell 1).trans (show _ = some (vi (e : Int)) from rfl)
  simp [grpM, h0, h1, intOf]
theorem blk_set2 {w : World} {r : Nat} {t : TypeId} {a b : Value} (h : Blk w r t #[a, b]) (x y : Value) : Blk ((w.setCell ⟨r, 0, none⟩ x).setCell ⟨r, 1, none⟩ y) r t #[x, y] ∧ w.grownBy ((w.setCell ⟨r, 0, none⟩ x).setCell ⟨r, 1, none⟩ y) (some r) :=
  ⟨(h.set_ 0 x).set_ 1 y, grownBy_trans blk_grown blk_grown⟩
section
variable (p S b s k z : Nat) [NeZero p] (oo : Nat → Nat → Fin p) (AT : Option Addr) (nT cT : Nat) (top : List Int) {w0 : World} (hT : ArgS w0 AT nT cT top) (n : Int)
    {A0 : Option Addr} {n0 c0 : Nat} {la : List Int} {AR : Option Addr} {nR cR : Nat} {ra : List (List Int)} {AN : Option Addr} {nN cN : Nat} {na : List (List Int)}
    {B0 : Option Addr} {m0 d0 : Nat} {lb : List Int} {BR : Option Addr} {mR dR : Nat} {rb : List (List Int)} {BN : Option Addr} {mN dN : Nat} {nb : List (List Int)}
    (w : World) (F : Fld w S b p) (G : Spg w s b k z oo) (sT : SL w AT top) (hx : OpnAt w A0 n0 c0 la AR nR cR ra AN nN cN na) (hy : OpnAt w B0 m0 d0 lb BR mR dR rb BN mN dN nb)
include hT F G sT hx hy
def CollIs (p k : Nat) [NeZero p] (la : List Int) (ra : List (List Int)) (lb : List Int) (rb : List (List Int)) (w : World) (e : Ending) (w' : World) : Prop :=
  (CollYes p k w e w' ∧ ∃ i, i < la.length ∧ ApartAt p la ra lb rb i) ∨ (CollNo w e w' ∧ ∀ i, i < la.length → ¬ ApartAt p la ra lb rb i)
set_option maxRecDepth 100000 in
set_option maxHeartbeats 4000000 in
theorem collide_yes (h2p : 2 ≤ p) (ha : takenB p k la ra na top n = true) (hb : takenB p k lb rb nb top n = true) :
    Calls Try.prog 7 #[.pointer (some ⟨s, 0, none⟩), .slice AT nT cT, vi n, .agg #[.slice A0 n0 c0, .slice AR nR cR, .slice AN nN cN], .agg #[.slice B0 m0 d0, .slice BR mR dR, .slice BN mN dN]] w (CollIs p k la ra lb rb w) := by
  have Ta := takenB_iff.1 ha
  have Tb := takenB_iff.1 hb
  obtain ⟨N, rfl⟩ : ∃ N : Nat, n = (N : Int) := Int.eq_ofNat_of_zero_le (by have := Ta.1; omega)
  have HKA := Lib.hid (treeK_of Ta)
  have HKB := Lib.hid (treeK_of Tb)
  have HQ : Hid (1 ≤ N ∧ N ≤ 65536 ∧ OkP la N ∧ OkP lb N ∧ ra.length = la.length ∧ rb.length = lb.length) := Lib.hid ⟨by have := Ta.1; omega, by have := Ta.1; omega, Ta.2.2.2.1, Tb.2.2.2.1, Ta.2.2.1, Tb.2.2.1⟩
  have HP2 := Lib.hid h2p
  clear Ta Tb h2p
  have hb0 : Below w.heap.size w ((w.alloc (.cells #[.slice A0 n0 c0, .slice AR nR cR, .slice AN nN cN] 25)).alloc (.cells #[.slice B0 m0 d0, .slice BR mR dR, .slice BN mN dN] 25)) := ((Below.refl _ _).alloc (Nat.le_refl _) _).alloc (by simp) _
  have hB8 := (Blk.new w 25 #[.slice A0 n0 c0, .slice AR nR cR, .slice AN nN cN]).alloc (.cells #[.slice B0 m0 d0, .slice BR mR dR, .slice BN mN dN] 25)
  have hB9 := Blk.new (w.alloc (.cells #[.slice A0 n0 c0, .slice AR nR cR, .slice AN nN cN] 25)) 25 #[.slice B0 m0 d0, .slice BR mR dR, .slice BN mN dN]
  rw [show (w.alloc (.cells #[.slice A0 n0 c0, .slice AR nR cR, .slice AN nN cN] 25)).heap.size = w.heap.size + 1 by simp] at hB9
  obtain ⟨W, hW⟩ : ∃ W, W = ((w.alloc (.cells #[.slice A0 n0 c0, .slice AR nR cR, .slice AN nN cN] 25)).alloc (.cells #[.slice B0 m0 d0, .slice BR mR dR, .slice BN mN dN] 25)) := ⟨_, rfl⟩
  rw [← hW] at hb0 hB8 hB9
  have a0 := (hB8.cell 0).trans (show _ = some (.slice A0 n0 c0) from rfl)
  have a1 := (hB8.cell 1).trans (show _ = some (.slice AR nR cR) from rfl)
  have a2 := (hB8.cell 2).trans (show _ = some (.slice AN nN cN) from rfl)
  have HW := Lib.hid hW
  have HA := Lib.hid (follow_any p S b s k z oo AT nT cT top hT N W (F.below hb0 F.le) (G.below hb0 (block_lt_of_cell G.c0)) (sT.below hb0) (hx.below hb0))
  have HB := Lib.hid (fun V (hb : Below W.heap.size W V) => follow_any p S b s k z oo AT nT cT top hT N V (F.below (hb0.trans (hb.mono hb0.size)) F.le) (G.below (hb0.trans (hb.mono hb0.size)) (block_lt_of_cell G.c0)) (sT.below (hb0.trans (hb.mono hb0.size))) (hy.below (hb0.trans (hb.mono hb0.size))))
  have HB0 := Lib.hid hb0
  have H8 := Lib.hid hB8
  have H9 := Lib.hid hB9
  have HX := Lib.hid hx
  have HY := Lib.hid hy
  clear hW hB8 hB9 hb0 hT F G sT hx hy
  go_enter Try.func7, Try.ntmps7
  go_upto_region 1 with (fail)
  rw [← HW.out]
  go_wp2_with fail
  refine HA.out.mono ?_
  rintro _ w1 ⟨v, rfl, hv, hb1⟩
  have HV := Lib.hid hv
  have HB1 := Lib.hid hb1
  have hB91 := Blk.below H9.out hb1 H9.out.lt
  have b0 := (hB91.cell 0).trans (show _ = some (.slice B0 m0 d0) from rfl)
  have b1 := (hB91.cell 1).trans (show _ = some (.slice BR mR dR) from rfl)
  have b2 := (hB91.cell 2).trans (show _ = some (.slice BN mN dN) from rfl)
  clear hv hb1 a0 a1 a2 hB91
  go_wp2_with fail
  refine (HB.out w1 HB1.out).mono ?_
  rintro _ w2 ⟨u, rfl, hu, hb2⟩
  have HU := Lib.hid hu
  have HB12 := Lib.hid hb2
  have HB2 := Lib.hid (HB0.out.trans ((HB1.out.trans (hb2.mono HB1.out.size)).mono HB0.out.size))
  clear hu hb2 b0 b1 b2
  rw [hb]
  obtain ⟨ya, bDa, bLa, rfl, Ya⟩ := HV.out ha
  obtain ⟨yb, bDb, bLb, rfl, Yb⟩ := HU.out hb
  rw [Int.toNat_natCast] at Ya Yb
  have Ya2 := Ya.below HB12.out
  clear HV HU Ya ha hb
  generalize (workE p k la ra na N).1.1 = fDa at Ya2 HKA
  generalize (workE p k la ra na N).1.2 = fLa at Ya2 HKA
  generalize (workE p k lb rb nb N).1.1 = fDb at Yb HKB
  generalize (workE p k lb rb nb N).1.2 = fLb at Yb HKB
  have HYA := Lib.hid Ya2
  have HYB := Lib.hid Yb
  have hB8 := Blk.below (Blk.below H8.out HB1.out H8.out.lt) HB12.out (Blk.below H8.out HB1.out H8.out.lt).lt
  have a0 := (hB8.cell 0).trans (show _ = some (.slice A0 n0 c0) from rfl)
  have a1 := (hB8.cell 1).trans (show _ = some (.slice AR nR cR) from rfl)
  have a2 := (hB8.cell 2).trans (show _ = some (.slice AN nN cN) from rfl)
  have HS0 := Lib.hid (HX.out.s0.below HB2.out)
  have HLEN := Lib.hid HX.out.l0
  have HKL : Hid (∀ W', Below w2.heap.size w2 W' → W'.cell? ⟨ya, 0, none⟩ = some (.map (some bDa)) ∧ W'.cell? ⟨ya, 1, none⟩ = some (.map (some bLa)) ∧ W'.cell? ⟨yb, 0, none⟩ = some (.map (some bDb)) ∧ W'.cell? ⟨yb, 1, none⟩ = some (.map (some bLb))) := Lib.hid fun W' h =>
    ⟨((HYA.out.below h).obj.cell 0).trans rfl, ((HYA.out.below h).obj.cell 1).trans rfl, ((HYB.out.below h).obj.cell 0).trans rfl, ((HYB.out.below h).obj.cell 1).trans rfl⟩
  clear Ya2 Yb hB8
  go_wp2
  clear a0 a1 a2
  go_loopw [50] (fun i wr => ∃ t : Nat, t ≤ n0 ∧ i = vi t ∧ Below w2.heap.size w2 wr ∧ ∀ j, j < t → ¬ ApartAt p la ra lb rb j) (fun i _ => n0 - (intOf i).toNat)
  case atStart => exact ⟨0, Nat.zero_le _, rfl, Below.refl _ _, fun j hj => absurd hj (Nat.not_lt_zero _)⟩
  case round =>
    obtain ⟨t, ht, rfl, hb3, hno⟩ := hrel
    have HNO := Lib.hid hno
    have HB3 := Lib.hid hb3
    clear hno hb3
    by_cases hlt : t < n0
    · have htl : t < la.length := by rw [HLEN.out]; exact hlt
      obtain ⟨kk, hkk⟩ := Int.eq_ofNat_of_zero_le (HQ.out.2.2.1.2 _ (List.getElem_mem htl)).1
      have hkN : kk < N := by have := (HQ.out.2.2.1.2 _ (List.getElem_mem htl)).2; omega
      obtain ⟨ad, rfl, _, hcx⟩ := (HS0.out.below HB3.out).at_ htl
      have hja : (kk : Int) ∈ la := by rw [← hkk]; exact List.getElem_mem htl
      have HAT : Hid (∀ j : Nat, la[t]? = some (j : Int) → j = kk) := Lib.hid fun j hj => by
        rw [List.getElem?_eq_getElem htl, hkk] at hj
        injection hj with hj
        omega
      have HAT2 : Hid (la[t]? = some (kk : Int)) := Lib.hid (by rw [List.getElem?_eq_getElem htl, hkk])
      rw [hkk] at hcx
      have i1 : (0 : Int) ≤ (t : Int) := by omega
      have i2 : (t : Int) < (n0 : Int) := by omega
      have hwt : IntKind.i64.wrap ((t : Int) + 1) = (t : Int) + 1 := IntWalk.i64_in _ (by have := HX.out.b0; omega)
      obtain ⟨e1, he1⟩ : ∃ e1, e1 = kk + 1 := ⟨_, rfl⟩
      have hwk : IntKind.i64.wrap ((kk : Int) + 1) = (e1 : Int) := by rw [IntWalk.i64_in _ (by have := HQ.out.2.1; omega)]; omega
      obtain ⟨w4, hw4⟩ : ∃ w4, w4 = wr.alloc (.cells #[vi (kk : Int), vi (e1 : Int)] 54) := ⟨_, rfl⟩
      have HW4 := Lib.hid hw4
      have HG4 := Lib.hid (Blk.of_eq hw4)
      have HB4 := Lib.hid (HB3.out.trans ((below_of_eq hw4).mono HB3.out.size))
      have HE1 := Lib.hid he1
      have HJA := Lib.hid (And.intro hja hkN)
      clear hw4 he1 hja hkN htl hkk
      go_upto_region 9 with (fail)
      rw [← HW4.out]
      have HKB' := HKB.out.1
      obtain ⟨X1, hX1⟩ : ∃ X1, X1 = 0 :: fvs (els p (rowAt la ra kk)) := ⟨_, rfl⟩
      have hfa : fLa kk 1 = some X1 := by rw [hX1]; exact HKA.out.1.row HJA.out.1 HJA.out.2
      obtain ⟨ad1, n1, c1, hl1, hs1, hi1, hlk1⟩ := HYA.out.lis.find (a := kk) (m := 1) (Nat.le_refl _) (by have := HJA.out.2; have := HQ.out.2.1; omega) hfa
      rw [← HE1.out] at hlk1
      have g0 := (HG4.out.cell 0).trans (show _ = some (vi (kk : Int)) from rfl)
      have g1 := (HG4.out.cell 1).trans (show _ = some (vi (e1 : Int)) from rfl)
      obtain ⟨q0, q1, q2, q3⟩ := HKL.out w4 HB4.out
      have l1 := fun q : Nat => hlk1 (w4.drewN q) (below_drewN HB4.out q)
      have l10 := hlk1 w4 HB4.out
      have HX1 := Lib.hid (And.intro hl1 (And.intro hs1 hi1))
      have HFA := Lib.hid hfa
      have HEX := Lib.hid hX1
      clear hlk1 hl1 hs1 hi1 hfa hX1
      by_cases hkb : (kk : Int) ∈ lb
      · obtain ⟨Y1, hY1⟩ : ∃ Y1, Y1 = 0 :: fvs (els p (rowAt lb rb kk)) := ⟨_, rfl⟩
        have hfb : fLb kk 1 = some Y1 := by rw [hY1]; exact HKB.out.1.row hkb HJA.out.2
        obtain ⟨bd1, m1, d1, hl2, hs2, hi2, hlk2⟩ := HYB.out.lis.find (a := kk) (m := 1) (Nat.le_refl _) (by have := HJA.out.2; have := HQ.out.2.1; omega) hfb
        rw [← HE1.out] at hlk2
        have l2 := fun q : Nat => hlk2 (w4.drewN q) (below_drewN HB4.out q)
        have l20 := hlk2 w4 HB4.out
        have hXL : X1.length ≤ 9223372036854775807 := by have := (HKA.out.1.lists HP2.out HX.out.rR (SubG.row N 0 kk (by omega) (by have := HJA.out.2; omega)) HQ.out.1 HFA.out).2; omega
        have hYL : Y1.length ≤ 9223372036854775807 := by have := (HKB.out.1.lists HP2.out HY.out.rR (SubG.row N 0 kk (by omega) (by have := HJA.out.2; omega)) HQ.out.1 hfb).2; omega
        have HEQ : Hid (∀ W', Below w2.heap.size w2 W' → Calls Try.prog 20 #[.slice (some ad1) n1 c1, .slice (some bd1) m1 d1] W' fun e w' => e = .returned (.bool (eqB X1 Y1)) ∧ ∃ k, w' = W'.drewN k) := Lib.hid fun W' h => by
          have := equal_any (some ad1) (some bd1) c1 d1 X1 Y1 hXL hYL W' (HX1.out.2.1.below h) (hs2.below h)
          rw [HX1.out.1, hl2] at this
          exact this
        have HFB := Lib.hid hfb
        have HEY := Lib.hid hY1
        have HKB2 := Lib.hid hkb
        clear hlk2 hl2 hs2 hi2 hfb hY1 hkb
        have hq := fun (W : World) => Lib.run_eql_slice_nil (P := Try.prog) W 22 3 (some bd1) m1 d1 0 0 Try.underlying22
        have hqn : (some bd1 : Option Addr).isNone = false := rfl
        by_cases hXY : X1 = Y1
        · rw [eqB_true hXY] at HEQ
          have HXY := Lib.hid hXY
          clear hXY
          go_wp2
          go_quiet (fail)
          go_wp2_with fail
          refine (HEQ.out _ (by first | exact below_drewN HB4.out _ | exact HB4.out)).mono ?_
          rintro _ _ ⟨rfl, kq, rfl⟩
          go_wp2
          go_roundw
          case rel =>
            refine ⟨t + 1, by omega, by go_num, by first | exact below_drewN (below_drewN HB4.out _) _ | exact below_drewN HB4.out _, fun j hj => ?_⟩
            by_cases hjt : j < t
            · exact HNO.out j hjt
            · obtain rfl : j = t := by omega
              rintro ⟨i, h1, _, h3⟩
              obtain rfl := HAT.out i h1
              have h := HXY.out
              rw [HEX.out, HEY.out] at h
              injection h with _ h
              exact h3 h
          case measure => simp [intOf]; omega
        · rw [eqB_false hXY] at HEQ
          have HXY := Lib.hid hXY
          clear hXY
          go_wp2
          go_quiet (fail)
          go_wp2_with fail
          refine (HEQ.out _ (by first | exact below_drewN HB4.out _ | exact HB4.out)).mono ?_
          rintro _ w5 ⟨rfl, kq, hkq⟩
          have HW5 := Lib.hid (show Below w2.heap.size w2 w5 by rw [hkq]; first | exact below_drewN (below_drewN HB4.out _) _ | exact below_drewN HB4.out _)
          clear hkq l1 l10 l2 l20 g0 g1 q0 q1 q2 q3 HEQ hq hqn
          go_wp2
          go_loopw [22] (fun g wl => ∃ a m e gb : Nat, e = a + m ∧ g = .pointer (some ⟨gb, 0, none⟩) ∧ Blk wl gb 54 #[vi (a : Int), vi (e : Int)] ∧ SubG 0 N a m ∧ a ≤ kk ∧ kk < a + m ∧ fDa a m = fDb a m ∧ Below w2.heap.size w2 wl ∧ w2.heap.size ≤ gb) (fun g wl => grpM g wl)
          case atStart =>
            refine ⟨0, N, N, _, by omega, rfl, Blk.new _ _ _, .self _ _, by omega, by have := HJA.out.2; omega, ?_, ?_, ?_⟩
            · rw [HKA.out.2, HKB.out.2]
            · exact HW5.out.alloc HW5.out.size _
            · exact HW5.out.size
          case round =>
            obtain ⟨a, m, e, gb, he, rfl, hB, hsub, h1, h3, hf, hb5, hgb⟩ := hrel
            have hin := hsub.in_
            have hm1 := hin.2.2 HQ.out.1
            have hNm := HQ.out.2.1
            obtain ⟨X, Y, e1', e2', e3', e4', e5', lx, ly, hcoll, hdown⟩ := coll_here HKA.out.1 HKB.out.1 HP2.out HX.out.rR HY.out.rR hsub HQ.out.1 HJA.out.1 HKB2.out h1 h3 hf
            obtain ⟨ad2, n2, c2, hl1, hs1, hi1, hlk1⟩ := HYA.out.lis.find hm1 (by omega) e1'
            obtain ⟨bd2, m2, d2, hl2, hs2, hi2, hlk2⟩ := HYB.out.lis.find hm1 (by omega) e2'
            obtain ⟨x0, x1, x2, x3, hdx⟩ := four_of (digL_len (p := p) k X)
            rw [hdx] at e3'
            rw [← e5', hdx] at e4'
            have hda := fun W' (h : Below w2.heap.size w2 W') => (HYA.out.below h).dig.look hm1 (by omega) e3'
            have hdb := fun W' (h : Below w2.heap.size w2 W') => (HYB.out.below h).dig.look hm1 (by omega) e4'
            have heq := equal_four x0 x1 x2 x3 x0 x1 x2 x3
            rw [decide_eq_true rfl] at heq
            rw [← he] at hlk1 hlk2 hda hdb
            obtain ⟨q0, q1, q2, q3⟩ := HKL.out wr hb5
            have g0 := (hB.cell 0).trans (show _ = some (vi (a : Int)) from rfl)
            have g1 := (hB.cell 1).trans (show _ = some (vi (e : Int)) from rfl)
            have l1 := fun q : Nat => hlk1 (wr.drewN q) (below_drewN hb5 q)
            have l2 := fun q : Nat => hlk2 (wr.drewN q) (below_drewN hb5 q)
            have l3 := fun q : Nat => (hda (wr.drewN q) (below_drewN hb5 q)).trans (show _ = .ok (.agg #[vi x0, vi x1, vi x2, vi x3]) _ from rfl)
            have l4 := fun q : Nat => (hdb (wr.drewN q) (below_drewN hb5 q)).trans (show _ = .ok (.agg #[vi x0, vi x1, vi x2, vi x3]) _ from rfl)
            have l10 := hlk1 wr hb5
            have l20 := hlk2 wr hb5
            have HEQ : Hid (∀ q0 q, Calls Try.prog 20 #[.slice (some ad2) n2 c2, .slice (some bd2) m2 d2] (wr.drewN (q0 + q)) fun e w' => e = .returned (.bool (eqB X Y)) ∧ ∃ k, w' = wr.drewN (q0 + k)) := Lib.hid fun q0 q => by
              have := equal_any (some ad2) (some bd2) c2 d2 X Y (by omega) (by omega) (wr.drewN (q0 + q)) (hs1.below (below_drewN hb5 _)) (hs2.below (below_drewN hb5 _))
              rw [hl1, hl2] at this
              exact this.mono fun e w' h => ⟨h.1, by obtain ⟨k, rfl⟩ := h.2; exact ⟨q + k, by rw [drewN_add, Nat.add_assoc]⟩⟩
            have HSX : Hid (X.length = n2 ∧ SL w2 (some ad2) X ∧ (∀ x ∈ X, I64 x) ∧ X.length ≤ 17592186044000) := Lib.hid ⟨hl1, hs1, hi1, lx⟩
            have HSY : Hid (Y.length = m2 ∧ SL w2 (some bd2) Y ∧ (∀ x ∈ Y, I64 x) ∧ Y.length ≤ 17592186044000) := Lib.hid ⟨hl2, hs2, hi2, ly⟩
            have HB5 := Lib.hid hb5
            have HBG := Lib.hid (And.intro hB hgb)
            have HSU := Lib.hid hsub
            have HCO := Lib.hid hcoll
            have HDO := Lib.hid hdown
            have HE := Lib.hid he
            have HK13 := Lib.hid (And.intro h1 h3)
            have HDIFF : Hid (X = Y → 2 ≤ m) := Lib.hid fun hxy => Classical.byContradiction fun hm => by
              obtain rfl : m = 1 := by omega
              obtain rfl : a = kk := by omega
              rw [HFA.out] at e1'
              rw [HFB.out] at e2'
              injection e1' with e1'
              injection e2' with e2'
              exact HXY.out (by rw [e1', e2', hxy])
            clear hlk1 hlk2 hda hdb hl1 hs1 hi1 hl2 hs2 hi2 hcoll hdown hsub hf e1' e2' e3' e4' e5' hdx lx ly hB hb5 he h1 h3
            by_cases hXY : X = Y
            · rw [eqB_true hXY] at HEQ
              have hm2 := HDIFF.out hXY
              have HD := Lib.hid (HDO.out hXY hm2)
              clear hXY
              go_wp2
              go_quiet (fail)
              generalize nq = qa
              go_wp2
              go_quiet ((go_at_call 20; exact HEQ.out _ _))
              obtain ⟨w7, hw7⟩ : ∃ w7, w7 = (wr.drewN qa).drewN nq := ⟨_, rfl⟩
              have hB7 : Blk w7 gb 54 #[vi (a : Int), vi (e : Int)] := by rw [hw7]; exact HBG.out.1
              rw [← hw7]
              have HB7 := Lib.hid (show Below w2.heap.size w2 w7 by rw [hw7]; exact below_drewN (below_drewN HB5.out _) _)
              have hlf := leftN_lt hm2
              obtain ⟨c, hc⟩ : ∃ c, c = a + leftN m := ⟨_, rfl⟩
              have HC := Lib.hid hc
              have HHV : Hid (∀ W', Calls Try.prog 22 #[.agg #[vi (a : Int), vi (e : Int)]] W' fun e' w' => e' = .returned (.tuple #[.agg #[vi (a : Int), vi (c : Int)], .agg #[vi (c : Int), vi (e : Int)]]) ∧ Below W'.heap.size W' w') := Lib.hid fun W' => by
                have h := halves_any a m hm2 (by omega) W'
                rw [← HE.out, ← HC.out] at h
                exact h
              have HLF := Lib.hid hlf
              clear hw7 l1 l2 l3 l4 l10 l20 heq g0 g1 q0 q1 q2 q3 HEQ hc hlf
              have g0 := (hB7.cell 0).trans (show _ = some (vi (a : Int)) from rfl)
              have g1 := (hB7.cell 1).trans (show _ = some (vi (e : Int)) from rfl)
              go_wp2_with fail
              refine (HHV.out _).mono ?_
              rintro _ w8 ⟨rfl, hb8⟩
              have hB8 := Blk.below hB7 hb8 hB7.lt
              have hgl : gb < w8.heap.size := hB8.lt
              have HB8 := Lib.hid (HB7.out.trans (hb8.mono HB7.out.size))
              clear hb8 hB7 g0 g1
              obtain ⟨w9, hw9⟩ : ∃ w9, w9 = (w8.alloc (.cells #[vi (a : Int), vi (c : Int)] 54)).alloc (.cells #[vi (c : Int), vi (e : Int)] 54) := ⟨_, rfl⟩
              have hL9 := (Blk.new w8 54 #[vi (a : Int), vi (c : Int)]).alloc (.cells #[vi (c : Int), vi (e : Int)] 54)
              have hR9 := Blk.new (w8.alloc (.cells #[vi (a : Int), vi (c : Int)] 54)) 54 #[vi (c : Int), vi (e : Int)]
              rw [show (w8.alloc (.cells #[vi (a : Int), vi (c : Int)] 54)).heap.size = w8.heap.size + 1 by simp] at hR9
              have hB9 := (hB8.alloc (.cells #[vi (a : Int), vi (c : Int)] 54)).alloc (.cells #[vi (c : Int), vi (e : Int)] 54)
              have hb9 : Below w2.heap.size w2 w9 := by rw [hw9]; exact (HB8.out.alloc HB8.out.size _).alloc (by have := HB8.out.size; simp; omega) _
              rw [← hw9] at hL9 hR9 hB9
              have HW9 := Lib.hid hw9
              clear hw9
              have hB90 := (hB9.cell 0).trans (show _ = some (vi (a : Int)) from rfl)
              have hB91 := (hB9.cell 1).trans (show _ = some (vi (e : Int)) from rfl)
              have f0 := hB9.frozen 0
              have f1 := hB9.frozen 1
              have m0' := (hL9.cell 0).trans (show _ = some (vi (a : Int)) from rfl)
              have m1' := (hL9.cell 1).trans (show _ = some (vi (c : Int)) from rfl)
              have HB9 := Lib.hid hB9
              have HR9 := Lib.hid hR9
              have HL9 := Lib.hid hL9
              have HBB9 := Lib.hid hb9
              clear hB9 hR9 hL9 hb9 hB8
              go_upto_region 16 with (fail)
              rw [← HW9.out]
              obtain ⟨hset, hgr⟩ := blk_set2 HB9.out (vi (a : Int)) (vi (c : Int))
              obtain ⟨w10, hw10⟩ : ∃ w10, w10 = (w9.setCell ⟨gb, 0, none⟩ (vi (a : Int))).setCell ⟨gb, 1, none⟩ (vi (c : Int)) := ⟨_, rfl⟩
              rw [← hw10] at hset hgr
              have HW10 := Lib.hid hw10
              have HL10 := Lib.hid (Blk.grown HL9.out hgr (fun h => by injection h with h; omega))
              have HR10 := Lib.hid (Blk.grown HR9.out hgr (fun h => by injection h with h; omega))
              have HB10 := Lib.hid hset
              have HBB10 := Lib.hid (HBB9.out.grown hgr HBB9.out.size (fun x hx => by injection hx with hx; rw [← hx]; exact HBG.out.2))
              clear hw10 hset hgr
              go_upto_region 17 with (fail)
              rw [← HW10.out]
              clear hB90 hB91 f0 f1 m0' m1'
              have m1' := (HL10.out.cell 1).trans (show _ = some (vi (c : Int)) from rfl)
              have g0 := (HB10.out.cell 0).trans (show _ = some (vi (a : Int)) from rfl)
              have g1 := (HB10.out.cell 1).trans (show _ = some (vi (c : Int)) from rfl)
              by_cases hck : c ≤ kk
              · have u1 : decide ((c : Int) ≤ (kk : Int)) = true := decide_eq_true (by omega)
                have f0 := HB10.out.frozen 0
                have f1 := HB10.out.frozen 1
                have r0 := (HR10.out.cell 0).trans (show _ = some (vi (c : Int)) from rfl)
                have r1 := (HR10.out.cell 1).trans (show _ = some (vi (e : Int)) from rfl)
                obtain ⟨hset, hgr⟩ := blk_set2 HB10.out (vi (c : Int)) (vi (e : Int))
                obtain ⟨w11, hw11⟩ : ∃ w11, w11 = (w10.setCell ⟨gb, 0, none⟩ (vi (c : Int))).setCell ⟨gb, 1, none⟩ (vi (e : Int)) := ⟨_, rfl⟩
                rw [← hw11] at hset hgr
                have HW11 := Lib.hid hw11
                have HB11 := Lib.hid hset
                have HBB11 := Lib.hid (HBB10.out.grown hgr HBB10.out.size (fun x hx => by injection hx with hx; rw [← hx]; exact HBG.out.2))
                clear hw11 hset hgr
                go_upto_region 19 with (fail)
                rw [← HW11.out]
                clear f0 f1 r0 r1 g0 g1 m1'
                have g0 := (HB11.out.cell 0).trans (show _ = some (vi (c : Int)) from rfl)
                have g1 := (HB11.out.cell 1).trans (show _ = some (vi (e : Int)) from rfl)
                go_wp2
                go_roundw
                case rel =>
                  exact ⟨c, m - leftN m, e, _, by have := HE.out; have := HC.out; have := HLF.out; omega, rfl, Blk.new _ _ _, by rw [HC.out]; exact HSU.out.hi hm2, hck, by have := HK13.out; have := HC.out; have := HLF.out; omega, by rw [HC.out]; exact HD.out.2, HBB11.out.alloc HBB11.out.size _, HBB11.out.size⟩
                case measure =>
                  rw [grpM_of (Blk.new _ _ _), grpM_of HBG.out.1]
                  have := HE.out; have := HC.out; have := HLF.out; omega
              · have u1 : decide ((c : Int) ≤ (kk : Int)) = false := decide_eq_false (by omega)
                go_wp2
                go_roundw
                case rel =>
                  exact ⟨a, leftN m, c, _, HC.out, rfl, Blk.new _ _ _, HSU.out.lo hm2, HK13.out.1, by have := HC.out; omega, HD.out.1, HBB10.out.alloc HBB10.out.size _, HBB10.out.size⟩
                case measure =>
                  rw [grpM_of (Blk.new _ _ _), grpM_of HBG.out.1]
                  have := HE.out; have := HC.out; have := HLF.out; omega
            · rw [eqB_false hXY] at HEQ
              have HCC := Lib.hid (HCO.out hXY)
              clear hXY
              go_wp2
              go_quiet (fail)
              generalize nq = qa
              go_wp2
              go_quiet ((go_at_call 20; exact HEQ.out _ _))
              have HCL : Hid (∀ W', Below w2.heap.size w2 W' → Calls Try.prog 21 #[.slice (some ad2) n2 c2] W' fun e w' => Made X W' e w') := Lib.hid fun W' h => clone_any (some ad2) n2 c2 X HSX.out.1 (by have := HSX.out.1; have := HSX.out.2.2.2; omega) W' (HSX.out.2.1.below h)
              have HCM : Hid (∀ W', Below w2.heap.size w2 W' → Calls Try.prog 21 #[.slice (some bd2) m2 d2] W' fun e w' => Made Y W' e w') := Lib.hid fun W' h => clone_any (some bd2) m2 d2 Y HSY.out.1 (by have := HSY.out.1; have := HSY.out.2.2.2; omega) W' (HSY.out.2.1.below h)
              obtain ⟨w7, hw7⟩ : ∃ w7, w7 = (wr.drewN qa).drewN nq := ⟨_, rfl⟩
              rw [← hw7]
              have HB7 := Lib.hid (show Below w2.heap.size w2 w7 by rw [hw7]; exact below_drewN (below_drewN HB5.out _) _)
              clear hw7 l1 l2 l3 l4 l10 l20 heq g0 g1 q0 q1 q2 q3 HEQ
              go_wp2_with fail
              refine (HCL.out _ HB7.out).mono ?_
              rintro _ w8 ⟨v8, rfl, ho8, hb8⟩
              have HB8 := Lib.hid (HB7.out.trans (hb8.mono HB7.out.size))
              go_wp2_with fail
              refine (HCM.out _ HB8.out).mono ?_
              rintro _ w9 ⟨v9, rfl, ho9, hb9⟩
              obtain ⟨A8, n8, c8, rfl, hl8, _, _, hs8⟩ := ho8.shapeN
              obtain ⟨A9, n9, c9, rfl, hl9, _, _, hs9⟩ := ho9.shapeN
              have HFIN : Hid (CollIs p k la ra lb rb w (.returned (.tuple #[.slice A8 n8 c8, .slice A9 n9 c9, .bool true])) w9) := Lib.hid
                (.inl ⟨⟨X, Y, A8, n8, c8, A9, n9, c9, rfl, HCC.out, hl8, hl9, by have := HSX.out.2.2.2; omega, by have := HSY.out.2.2.2; omega, hs8.below hb9, hs9, HSX.out.2.2.1, HSY.out.2.2.1, HB2.out.trans ((HB8.out.trans (hb9.mono HB8.out.size)).mono HB2.out.size)⟩, t, by rw [HLEN.out]; exact hlt, kk, HAT2.out, HKB2.out, fun h => HXY.out (by rw [HEX.out, HEY.out, h])⟩)
              clear ho8 ho9 hb8 hb9 hs8 hs9 hl8 hl9
              go_wp2
              exact bodyPost_ret (v := .tuple #[.slice A8 n8 c8, .slice A9 n9 c9, .bool true]) (by simp [results, Try.results7, go_sem]) rfl HFIN.out
      · have hlk2 := HYB.out.lis.none_ (a := kk) (m := 1) (Nat.le_refl _) (by have := HJA.out.2; have := HQ.out.2.1; omega) (HKB.out.1.norow hkb HJA.out.2)
        rw [← HE1.out] at hlk2
        have l2 := fun q : Nat => hlk2 (w4.drewN q) (below_drewN HB4.out q)
        have l20 := hlk2 w4 HB4.out
        have HKB2 := Lib.hid hkb
        have hq := fun (W : World) => Lib.run_eql_slice_nil (P := Try.prog) W 22 3 none 0 0 0 0 Try.underlying22
        have hqn : (none : Option Addr).isNone = true := rfl
        clear hlk2 hkb
        go_wp2
        go_quiet (fail)
        go_wp2
        go_roundw
        case rel =>
          refine ⟨t + 1, by omega, by go_num, by first | exact below_drewN HB4.out _ | exact HB4.out, fun j hj => ?_⟩
          by_cases hjt : j < t
          · exact HNO.out j hjt
          · obtain rfl : j = t := by omega
            rintro ⟨i, h1, h2, _⟩
            obtain rfl := HAT.out i h1
            exact HKB2.out h2
        case measure => simp [intOf]; omega
    · have et : t = n0 := by omega
      clear ht
      go_wp2
      exact bodyPost_ret (v := .tuple #[.slice none 0 0, .slice none 0 0, .bool false]) (by simp [results, Try.results7, go_sem]) rfl <| .inr ⟨⟨rfl, HB2.out.trans (HB3.out.mono HB2.out.size)⟩, fun i hi => HNO.out i (by rw [et, ← HLEN.out]; exact hi)⟩
end
end Go.Proofs.Ytmhhgaofilaalaa

/- The walk of the law TreeBinds. -/
set_option linter.unusedVariables false
namespace Go.Proofs.Ytmhhgaofilaalaa
open Go.RowKit Zp
/-- is there a place that both show, each with a row of its own? -/
noncomputable def apartP (p : Nat) [NeZero p] (la : List Int) (ra : List (List Int)) (lb : List Int) (rb : List (List Int)) (i j : Nat) : Bool :=
  decide (la.getD i 0 = lb.getD j 0) && !sameE p (ra.getD i []) (rb.getD j [])
/-- .. in the rows as far as i, and of row i as far as j -/
noncomputable def apartU (p : Nat) [NeZero p] (la : List Int) (ra : List (List Int)) (lb : List Int) (rb : List (List Int)) (i j : Nat) : Bool :=
  (List.range i).any (fun t => (List.range lb.length).any fun u => apartP p la ra lb rb t u) || (List.range j).any fun u => apartP p la ra lb rb i u
section
variable (p : Nat) [NeZero p] (la : List Int) (ra : List (List Int)) (lb : List Int) (rb : List (List Int))
theorem apartU_zero : apartU p la ra lb rb 0 0 = false := rfl
theorem apartU_step (i j : Nat) : apartU p la ra lb rb i (j + 1) = (apartU p la ra lb rb i j || apartP p la ra lb rb i j) := by
  unfold apartU
  rw [List.range_succ, List.any_append, List.any_cons, List.any_nil, Bool.or_false, Bool.or_assoc]
theorem apartU_row (i : Nat) : apartU p la ra lb rb (i + 1) 0 = apartU p la ra lb rb i lb.length := by
  unfold apartU
  rw [List.range_succ, List.any_append, List.any_cons, List.any_nil, Bool.or_false]
  simp
theorem apartU_iff (ha : Asc la) (hb : Asc lb) (hra : ra.length = la.length) (hrb : rb.length = lb.length) (hpos : ∀ x ∈ la, 0 ≤ x) : apartU p la ra lb rb la.length 0 = true ↔ ∃ i, i < la.length ∧ ApartAt p la ra lb rb i := by
  have e0 : apartU p la ra lb rb la.length 0 = (List.range la.length).any (fun t => (List.range lb.length).any fun u => apartP p la ra lb rb t u) := by unfold apartU; simp
  rw [e0, List.any_eq_true]
  constructor
  · rintro ⟨i, hi, h⟩
    rw [List.mem_range] at hi
    obtain ⟨u, hu, h⟩ := List.any_eq_true.1 h
    rw [List.mem_range] at hu
    unfold apartP at h
    rw [Bool.and_eq_true, decide_eq_true_eq, List.getD_eq_getElem?_getD, List.getD_eq_getElem?_getD, List.getElem?_eq_getElem hi, List.getElem?_eq_getElem hu, Option.getD_some, Option.getD_some, List.getD_eq_getElem?_getD, List.getD_eq_getElem?_getD, List.getElem?_eq_getElem (show i < ra.length by omega), List.getElem?_eq_getElem (show u < rb.length by omega), Option.getD_some, Option.getD_some] at h
    obtain ⟨j, hj⟩ := Int.eq_ofNat_of_zero_le (hpos _ (List.getElem_mem hi))
    refine ⟨i, hi, j, by rw [List.getElem?_eq_getElem hi, hj], by rw [← hj, h.1]; exact List.getElem_mem hu, fun e => ?_⟩
    rw [rowAt_get ha hra hi hj, rowAt_get hb hrb hu (by rw [← h.1, hj])] at e
    have h2 := h.2
    rw [show sameE p ra[i] rb[u] = true from eqB_true e] at h2
    cases h2
  · rintro ⟨i, hi, j, h1, h2, h3⟩
    rw [List.getElem?_eq_getElem hi] at h1
    injection h1 with h1
    obtain ⟨u, hu, e⟩ := List.mem_iff_getElem.1 h2
    refine ⟨i, List.mem_range.2 hi, List.any_eq_true.2 ⟨u, List.mem_range.2 hu, ?_⟩⟩
    unfold apartP
    rw [Bool.and_eq_true, decide_eq_true_eq, List.getD_eq_getElem?_getD, List.getD_eq_getElem?_getD, List.getElem?_eq_getElem hi, List.getElem?_eq_getElem hu, Option.getD_some, Option.getD_some, List.getD_eq_getElem?_getD, List.getD_eq_getElem?_getD, List.getElem?_eq_getElem (show i < ra.length by omega), List.getElem?_eq_getElem (show u < rb.length by omega), Option.getD_some, Option.getD_some]
    refine ⟨by rw [h1, e], ?_⟩
    rw [rowAt_get ha hra hi h1, rowAt_get hb hrb hu e] at h3
    rw [show sameE p ra[i] rb[u] = false from eqB_false h3]
    rfl
end
theorem opnAt_args' {w : World} {A0 : Option Addr} {n0 c0 : Nat} {l : List Int} {AR : Option Addr} {nR cR : Nat} {rs : List (List Int)} {AN : Option Addr} {nN cN : Nat} {ns : List (List Int)} (h0 : ArgS w A0 n0 c0 l) (hR : ArgMS w AR nR cR rs) (hN : ArgMS w AN nN cN ns) : OpnAt w A0 n0 c0 l AR nR cR rs AN nN cN ns :=
  ⟨h0.len, hR.m.len, hN.m.len, by have := h0.reach; have := h0.cap; omega, hR.n24, hN.n24, hN.m.cap, h0.i64, hR.r8, hN.r8, h0.sl, hR.m.tb, hN.m.tb⟩
/-- what tree.Collide hands back, in one form -/
def CollW (p k : Nat) [NeZero p] (la : List Int) (ra : List (List Int)) (lb : List Int) (rb : List (List Int)) (ok : Bool) (w : World) (e : Ending) (w' : World) : Prop :=
  ∃ X Y A n c B m d, e = .returned (.tuple #[.slice A n c, .slice B m d, .bool ok]) ∧ (ok = true → Coll p k X Y) ∧ (ok = false → n = 0 ∧ m = 0) ∧ X.length = n ∧ Y.length = m ∧ n ≤ 17592186044000 ∧ m ≤ 17592186044000 ∧ SL w' A X ∧ SL w' B Y ∧ (∀ x ∈ X, I64 x) ∧ (∀ y ∈ Y, I64 y) ∧ Below w.heap.size w w'
theorem CollIs.w {p k : Nat} [NeZero p] {la : List Int} {ra : List (List Int)} {lb : List Int} {rb : List (List Int)} {w w' : World} {e : Ending} (h : CollIs p k la ra lb rb w e w') (hiff : apartU p la ra lb rb la.length 0 = true ↔ ∃ i, i < la.length ∧ ApartAt p la ra lb rb i) : CollW p k la ra lb rb (apartU p la ra lb rb la.length 0) w e w' := by
  rcases h with ⟨⟨X, Y, A, n, c, B, m, d, rfl, h1, h2, h3, h4, h5, h6, h7, h8, h9, h10⟩, hi⟩ | ⟨⟨rfl, hb⟩, hno⟩
  · rw [hiff.2 hi]
    exact ⟨X, Y, A, n, c, B, m, d, rfl, fun _ => h1, fun h => (by cases h), h2, h3, h4, h5, h6, h7, h8, h9, h10⟩
  · have h0 : apartU p la ra lb rb la.length 0 = false := by
      rw [Bool.eq_false_iff]
      intro h
      obtain ⟨i, h1, h2⟩ := hiff.1 h
      exact hno i h1 h2
    rw [h0]
    exact ⟨[], [], none, 0, 0, none, 0, 0, rfl, fun h => (by cases h), fun _ => ⟨rfl, rfl⟩, rfl, rfl, by omega, by omega, SL.nil, SL.nil, by simp, by simp, hb⟩
set_option maxRecDepth 100000 in
set_option maxHeartbeats 4000000 in
theorem tbinds_walk (w : World) (p : Int) (hp : I64 p) (AT : Option Addr) (nT cT : Nat) (top : List Int) (hT : ArgS w AT nT cT top) (n : Int) (hn : I64 n)
    (A0 : Option Addr) (n0 c0 : Nat) (la : List Int) (h0 : ArgS w A0 n0 c0 la) (AR : Option Addr) (nR cR : Nat) (ra : List (List Int)) (hR : ArgMS w AR nR cR ra) (AN : Option Addr) (nN cN : Nat) (na : List (List Int)) (hN : ArgMS w AN nN cN na)
    (B0 : Option Addr) (m0 d0 : Nat) (lb : List Int) (g0 : ArgS w B0 m0 d0 lb) (BR : Option Addr) (mR dR : Nat) (rb : List (List Int)) (gR : ArgMS w BR mR dR rb) (BN : Option Addr) (mN dN : Nat) (nb : List (List Int)) (gN : ArgMS w BN mN dN nb) :
    Calls Try.prog 3 #[vi p, .slice AT nT cT, vi n, .agg #[.slice A0 n0 c0, .slice AR nR cR, .slice AN nN cN], .agg #[.slice B0 m0 d0, .slice BR mR dR, .slice BN mN dN]] w fun e w' => SaysW (.bool true) w e w' := by
  have hb0 : Below w.heap.size w ((w.alloc (.cells #[.slice A0 n0 c0, .slice AR nR cR, .slice AN nN cN] 25)).alloc (.cells #[.slice B0 m0 d0, .slice BR mR dR, .slice BN mN dN] 25)) := ((Below.refl _ _).alloc (Nat.le_refl _) _).alloc (by simp) _
  have hB8 := (Blk.new w 25 #[.slice A0 n0 c0, .slice AR nR cR, .slice AN nN cN]).alloc (.cells #[.slice B0 m0 d0, .slice BR mR dR, .slice BN mN dN] 25)
  have hB9 := Blk.new (w.alloc (.cells #[.slice A0 n0 c0, .slice AR nR cR, .slice AN nN cN] 25)) 25 #[.slice B0 m0 d0, .slice BR mR dR, .slice BN mN dN]
  rw [show (w.alloc (.cells #[.slice A0 n0 c0, .slice AR nR cR, .slice AN nN cN] 25)).heap.size = w.heap.size + 1 by simp] at hB9
  obtain ⟨W, hW⟩ : ∃ W, W = ((w.alloc (.cells #[.slice A0 n0 c0, .slice AR nR cR, .slice AN nN cN] 25)).alloc (.cells #[.slice B0 m0 d0, .slice BR mR dR, .slice BN mN dN] 25)) := ⟨_, rfl⟩
  rw [← hW] at hb0 hB8 hB9
  have HW := Lib.hid hW
  have HB0 := Lib.hid hb0
  have H8 := Lib.hid hB8
  have H9 := Lib.hid hB9
  have HX := Lib.hid (opnAt_args' h0 hR hN)
  have HY := Lib.hid (opnAt_args' g0 gR gN)
  have HT := Lib.hid hT
  have HL := Lib.hid (lives3_any W)
  clear hW hb0 hB8 hB9 h0 hR hN g0 gR gN hT hp hn
  go_enter Try.func3, Try.ntmps3
  go_upto_region 1 with (fail)
  rw [← HW.out]
  go_wp2_with fail
  refine (HL.out).mono ?_
  rintro _ w1 ⟨rfl, hb1⟩
  have HB01 := Lib.hid hb1
  have HB1 := Lib.hid (HB0.out.trans (hb1.mono HB0.out.size))
  clear hb1
  go_wp2_with fail
  refine (plain3_any p w1).mono ?_
  intro e w2 h
  cases h with
  | no h he hw =>
    subst he
    go_wp2
    go_ret
    exact ⟨rfl, HB1.out.trans (hw.mono HB1.out.size)⟩
  | yes q hn h23 hm hpn hw hF =>
    subst hn
    haveI := hpn.ne
    obtain ⟨S, s, b, k, z, oo, rfl, F, G, hs1, hs2⟩ := hF inferInstance
    have hbW2 := HB01.out.trans (hw.mono HB01.out.size)
    have HB2 := Lib.hid (HB1.out.trans (hw.mono HB1.out.size))
    have HB8 := Lib.hid (Blk.below H8.out hbW2 H8.out.lt)
    have HB9 := Lib.hid (Blk.below H9.out hbW2 H9.out.lt)
    have HF := Lib.hid F
    have HG := Lib.hid G
    have HM := Lib.hid hm
    have HS2 := Lib.hid hs2
    have hq2 : 2 ≤ q := by omega
    have HTA := Lib.hid (fun V (hb : Below w2.heap.size w2 V) => tcheck_any q S b s k z oo AT nT cT top HT.out n V (HF.out.below hb HF.out.le) (HG.out.below hb hs2) (HT.out.sl.below (HB2.out.trans (hb.mono HB2.out.size))) (HX.out.below (HB2.out.trans (hb.mono HB2.out.size))))
    have HTB := Lib.hid (fun V (hb : Below w2.heap.size w2 V) => tcheck_any q S b s k z oo AT nT cT top HT.out n V (HF.out.below hb HF.out.le) (HG.out.below hb hs2) (HT.out.sl.below (HB2.out.trans (hb.mono HB2.out.size))) (HY.out.below (HB2.out.trans (hb.mono HB2.out.size))))
    have a0 := (HB8.out.cell 0).trans (show _ = some (.slice A0 n0 c0) from rfl)
    have a1 := (HB8.out.cell 1).trans (show _ = some (.slice AR nR cR) from rfl)
    have a2 := (HB8.out.cell 2).trans (show _ = some (.slice AN nN cN) from rfl)
    have b0 := (HB9.out.cell 0).trans (show _ = some (.slice B0 m0 d0) from rfl)
    have b1 := (HB9.out.cell 1).trans (show _ = some (.slice BR mR dR) from rfl)
    have b2 := (HB9.out.cell 2).trans (show _ = some (.slice BN mN dN) from rfl)
    by_cases hab : takenB q k la ra na top n = true ∧ takenB q k lb rb nb top n = true
    · obtain ⟨hta, htb⟩ := hab
      have Ta := takenB_iff.1 hta
      have Tb := takenB_iff.1 htb
      have hiff := apartU_iff q la ra lb rb Ta.2.2.2.1.1 Tb.2.2.2.1.1 Ta.2.2.1 Tb.2.2.1 (fun x hx => (Ta.2.2.2.1.2 x hx).1)
      have hRn : nR = n0 := by rw [← HX.out.lR, ← HX.out.l0, Ta.2.2.1]
      have hRm : mR = m0 := by rw [← HY.out.lR, ← HY.out.l0, Tb.2.2.1]
      have HCO := Lib.hid ((collide_yes q S b s k z oo AT nT cT top HT.out n w2 HF.out HG.out (HT.out.sl.below HB2.out) (HX.out.below HB2.out) (HY.out.below HB2.out) hq2 hta htb).mono fun e w' h => h.w hiff)
      have HTT := Lib.hid (And.intro hta htb)
      subst hRn hRm
      clear hta htb Ta Tb hiff hF hw hpn h23 hm hs1 hs2 F G hbW2
      obtain ⟨ok, hok⟩ : ∃ ok, ok = apartU q la ra lb rb la.length 0 := ⟨_, rfl⟩
      rw [← hok] at HCO
      rw [HX.out.l0] at hok
      have HOK := Lib.hid hok
      clear hok
      go_wp2_with fail
      refine HCO.out.mono ?_
      rintro _ w3 ⟨X, Y, A, nx, cx, B, my, dy, rfl, hco, hz, hx1, hy1, hx2, hy2, hx3, hy3, hx4, hy4, hb3⟩
      have hB8 := Blk.below HB8.out hb3 HB8.out.lt
      have hB9 := Blk.below HB9.out hb3 HB9.out.lt
      have HB3 := Lib.hid hb3
      have H83 := Lib.hid hB8
      have H93 := Lib.hid hB9
      have HXX := Lib.hid (And.intro hx1 (And.intro hx2 (And.intro hx3 hx4)))
      have HYY := Lib.hid (And.intro hy1 (And.intro hy2 (And.intro hy3 hy4)))
      have HCC := Lib.hid (And.intro hco hz)
      clear a0 a1 a2 b0 b1 b2 hco hz hx1 hy1 hx2 hy2 hx3 hy3 hx4 hy4 hb3
      have a0 := (hB8.cell 0).trans (show _ = some (.slice A0 nR c0) from rfl)
      have a1 := (hB8.cell 1).trans (show _ = some (.slice AR nR cR) from rfl)
      have a2 := (hB8.cell 2).trans (show _ = some (.slice AN nN cN) from rfl)
      clear hB8 hB9
      go_wp2_with fail
      refine (HTA.out _ HB3.out).mono ?_
      rintro _ w4 ⟨rfl, hb4⟩
      rw [HTT.out.1]
      have hB9 := Blk.below H93.out hb4 H93.out.lt
      have HB4 := Lib.hid (HB3.out.trans (hb4.mono HB3.out.size))
      have H84 := Lib.hid (Blk.below H83.out hb4 H83.out.lt)
      have H94 := Lib.hid hB9
      have HB34 := Lib.hid hb4
      clear a0 a1 a2 hb4
      have b0 := (hB9.cell 0).trans (show _ = some (.slice B0 mR d0) from rfl)
      have b1 := (hB9.cell 1).trans (show _ = some (.slice BR mR dR) from rfl)
      have b2 := (hB9.cell 2).trans (show _ = some (.slice BN mN dN) from rfl)
      clear hB9
      go_wp2_with fail
      refine (HTB.out _ HB4.out).mono ?_
      rintro _ w5 ⟨rfl, hb5⟩
      rw [HTT.out.2]
      have hB8 := Blk.below H84.out hb5 H84.out.lt
      have hB9 := Blk.below H94.out hb5 H94.out.lt
      have HB5 := Lib.hid (HB4.out.trans (hb5.mono HB4.out.size))
      have HB35 := Lib.hid (HB34.out.trans (hb5.mono HB34.out.size))
      clear b0 b1 b2 hb5
      have a0 := (hB8.cell 0).trans (show _ = some (.slice A0 nR c0) from rfl)
      have a1 := (hB8.cell 1).trans (show _ = some (.slice AR nR cR) from rfl)
      have b0 := (hB9.cell 0).trans (show _ = some (.slice B0 mR d0) from rfl)
      have b1 := (hB9.cell 1).trans (show _ = some (.slice BR mR dR) from rfl)
      have tn : ((nR : Int) != (nR : Int)) = false := by simp
      have tm : ((mR : Int) != (mR : Int)) = false := by simp
      clear hB8 hB9
      have HXO := Lib.hid (HX.out.below (HB2.out.trans (HB5.out.mono HB2.out.size)))
      have HYO := Lib.hid (HY.out.below (HB2.out.trans (HB5.out.mono HB2.out.size)))
      go_wp2
      go_loopw [18, 19] (fun ap i wr => ∃ t r : Nat, t ≤ nR ∧ i = vi t ∧ ap = .bool (apartU q la ra lb rb t 0) ∧ wr = w5.drewN r) (fun _ i _ => nR - (intOf i).toNat)
      case atStart => exact ⟨0, 0, Nat.zero_le _, rfl, rfl, rfl⟩
      case round =>
        obtain ⟨t, r, ht, rfl, rfl, rfl⟩ := hrel
        by_cases hlt : t < nR
        · have i1 : (0 : Int) ≤ (t : Int) := by omega
          have i2 : (t : Int) < (nR : Int) := by omega
          have hwt : IntKind.i64.wrap ((t : Int) + 1) = (t : Int) + 1 := IntWalk.i64_in _ (by have := HX.out.b0; omega)
          go_wp2
          go_loopw [18, 20] (fun ap i wr => ∃ u r' : Nat, u ≤ mR ∧ i = vi u ∧ ap = .bool (apartU q la ra lb rb t u) ∧ wr = w5.drewN r') (fun _ i _ => mR - (intOf i).toNat)
          case atStart => exact ⟨0, r, Nat.zero_le _, rfl, rfl, rfl⟩
          case round =>
            obtain ⟨u, r', hu, rfl, rfl, rfl⟩ := hrel
            by_cases hlu : u < mR
            · have htl : t < la.length := by rw [HX.out.l0]; exact hlt
              have hul : u < lb.length := by rw [HY.out.l0]; exact hlu
              have htr : t < ra.length := by rw [HX.out.lR]; exact hlt
              have hur : u < rb.length := by rw [HY.out.lR]; exact hlu
              obtain ⟨ad, rfl, _, hcx⟩ := HXO.out.s0.at_ htl
              obtain ⟨bd, rfl, _, hcy⟩ := HYO.out.s0.at_ hul
              obtain ⟨cd, C1, m1, e1, rfl, hb1', hc1, hl1, hm1, hs1', hi1⟩ := HXO.out.tR t htr
              obtain ⟨dd, D1, m2, e2, rfl, hb2', hc2, hl2, hm2, hs2', hi2⟩ := HYO.out.tR u hur
              have j1 : (0 : Int) ≤ (u : Int) := by omega
              have j2 : (u : Int) < (mR : Int) := by omega
              have hwu : IntKind.i64.wrap ((u : Int) + 1) = (u : Int) + 1 := IntWalk.i64_in _ (by have := HY.out.b0; omega)
              have hst := apartU_step q la ra lb rb t u
              unfold apartP at hst
              rw [List.getD_eq_getElem?_getD, List.getD_eq_getElem?_getD, List.getElem?_eq_getElem htl, List.getElem?_eq_getElem hul, Option.getD_some, Option.getD_some, List.getD_eq_getElem?_getD, List.getD_eq_getElem?_getD, List.getElem?_eq_getElem htr, List.getElem?_eq_getElem hur, Option.getD_some, Option.getD_some] at hst
              have hie := fun M : Nat => rsame_any q HM.out C1 D1 m1 m2 e1 e2 ra[t] rb[u] hl1 hl2 (by omega) (by omega) hi1 hi2 (w5.drewN (r' + M)) hs1' hs2'
              generalize sameE q ra[t] rb[u] = sB at hst hie
              have HIE := Lib.hid (fun M => (hie M).mono fun e w' h => (show e = .returned (.bool sB) ∧ ∃ m, w' = w5.drewN (r' + m) from ⟨h.1, M, h.2.symm⟩))
              generalize la[t] = x at hcx hst
              generalize lb[u] = y at hcy hst
              obtain ⟨ub, hub⟩ : ∃ ub, ub = apartU q la ra lb rb t u := ⟨_, rfl⟩
              rw [← hub] at hst ⊢
              clear hie hl1 hl2 hm1 hm2 hs1' hs2' hi1 hi2 hb1' hb2' htl hul htr hur hub
              cases ub with
              | true =>
                rw [Bool.true_or] at hst
                have HST := Lib.hid hst
                clear hst
                go_wp2
                go_quiet ((go_at_call 9; exact HIE.out _))
                go_wp2
                go_quiet (fail)
                go_wp2
                go_roundw
                case rel => exact ⟨u + 1, _, by omega, by go_num, by rw [HST.out], by first | rfl | (simp only [World.drewN_drewN]; rfl)⟩
                case measure => simp [intOf]; omega
              | false =>
                rw [Bool.false_or] at hst
                by_cases hxy : x = y
                · have t2 : (x == y) = true := by rw [hxy]; simp
                  rw [decide_eq_true hxy, Bool.true_and] at hst
                  have HST := Lib.hid hst
                  clear hst hxy
                  cases sB with
                  | true =>
                    go_wp2
                    go_quiet ((go_at_call 9; exact HIE.out _))
                    go_wp2
                    go_quiet (fail)
                    go_wp2
                    go_roundw
                    case rel => exact ⟨u + 1, _, by omega, by go_num, by rw [HST.out]; rfl, by first | rfl | (simp only [World.drewN_drewN]; rfl)⟩
                    case measure => simp [intOf]; omega
                  | false =>
                    go_wp2
                    go_quiet ((go_at_call 9; exact HIE.out _))
                    go_wp2
                    go_quiet (fail)
                    go_wp2
                    go_roundw
                    case rel => exact ⟨u + 1, _, by omega, by go_num, by rw [HST.out]; rfl, by first | rfl | (simp only [World.drewN_drewN]; rfl)⟩
                    case measure => simp [intOf]; omega
                · have t2 : (x == y) = false := by rw [beq_eq_false_iff_ne]; exact hxy
                  rw [decide_eq_false hxy, Bool.false_and] at hst
                  have HST := Lib.hid hst
                  clear hst hxy
                  go_wp2
                  go_quiet ((go_at_call 9; exact HIE.out _))
                  go_wp2
                  go_quiet (fail)
                  go_wp2
                  go_roundw
                  case rel => exact ⟨u + 1, _, by omega, by go_num, by rw [HST.out], by first | rfl | (simp only [World.drewN_drewN]; rfl)⟩
                  case measure => simp [intOf]; omega
            · have eu : u = mR := by omega
              have HRW : Hid (apartU q la ra lb rb (t + 1) 0 = apartU q la ra lb rb t u) := Lib.hid (by rw [apartU_row, HY.out.l0, eu])
              clear eu hu
              go_wp2
              go_roundw
              case rel => exact ⟨t + 1, r', by omega, by go_num, by rw [HRW.out], rfl⟩
              case measure => simp [intOf]; omega
        · have et : t = nR := by omega
          rw [et, ← HOK.out]
          have hb6 : Below w5.heap.size w5 (w5.drewN r) := below_drewN (Below.refl _ _) r
          obtain ⟨w6, hw6⟩ : ∃ w6, w6 = w5.drewN r := ⟨_, rfl⟩
          have a0 : w6.cell? ⟨w.heap.size, 0, none⟩ = some (.slice A0 nR c0) := by rw [hw6]; exact a0
          rw [← hw6] at hb6 ⊢
          have HB6 := Lib.hid (HB5.out.trans (hb6.mono HB5.out.size))
          have HB36 := Lib.hid (HB35.out.trans (hb6.mono HB35.out.size))
          clear hw6 hb6 a1 b0 b1 hlt ht et tn tm
          cases ok with
          | false =>
            obtain ⟨rfl, rfl⟩ := HCC.out.2 rfl
            go_wp2
            go_ret
            exact ⟨rfl, HB2.out.trans (HB6.out.mono HB2.out.size)⟩
          | true =>
            have hco := HCC.out.1 rfl
            have hap := hco.apart
            obtain ⟨dd, hdd⟩ : ∃ dd, dd = digL q k X := ⟨_, rfl⟩
            have hh1 := hash_any q S b s k z oo A nx cx X HXX.out.1 HXX.out.2.2.2 (by have := HXX.out.2.1; omega) w6 (HF.out.below HB6.out HF.out.le) (HG.out.below HB6.out HS2.out) (HXX.out.2.2.1.below HB36.out)
            have HH1 := Lib.hid (hh1.mono fun e w' h => (h.root HM.out))
            have HH2 := Lib.hid (fun V (hb : Below w6.heap.size w6 V) => (hash_any q S b s k z oo B my dy Y HYY.out.1 HYY.out.2.2.2 (by have := HYY.out.2.1; omega) V (HF.out.below (HB6.out.trans (hb.mono HB6.out.size)) HF.out.le) (HG.out.below (HB6.out.trans (hb.mono HB6.out.size)) HS2.out) (HYY.out.2.2.1.below (HB36.out.trans (hb.mono HB36.out.size)))).mono fun e w' h => h.root HM.out)
            rw [← hdd] at HH1
            rw [← hco.2.1, ← hdd] at HH2
            have HSE := Lib.hid (fun V (hb : Below w6.heap.size w6 V) => rsame_any q HM.out A B nx my cx dy X Y HXX.out.1 HYY.out.1 (by have := HXX.out.2.1; omega) (by have := HYY.out.2.1; omega) HXX.out.2.2.2 HYY.out.2.2.2 V (HXX.out.2.2.1.below (HB36.out.trans (hb.mono HB36.out.size))) (HYY.out.2.2.1.below (HB36.out.trans (hb.mono HB36.out.size))))
            rw [hap] at HSE
            clear hco hap hdd hh1
            go_wp2_with fail
            refine HH1.out.mono ?_
            rintro _ w7 ⟨g7, rfl, _, s7, l7, i7, _, b7⟩
            go_wp2_with fail
            refine (HH2.out _ b7).mono ?_
            rintro _ w8 ⟨g8, rfl, _, s8, l8, i8, _, b8⟩
            have hni := ints_any (some ⟨g7, 0, none⟩) (some ⟨g8, 0, none⟩) 4 4 dd dd (by omega) (by omega) w8 (s7.below b8) s8
            rw [eqB_true rfl, l7] at hni
            have HNI := Lib.hid hni
            have HB68 := Lib.hid (b7.trans (b8.mono b7.size))
            clear hni s7 l7 i7 b7 s8 l8 i8 b8
            go_wp2_with fail
            refine HNI.out.mono ?_
            rintro _ _ ⟨rfl, k9, rfl⟩
            go_wp2_with fail
            refine (HSE.out _ (below_drewN HB68.out _)).mono ?_
            rintro _ _ ⟨rfl, rfl⟩
            go_wp2
            go_ret
            exact ⟨rfl, HB2.out.trans (((below_drewN (HB6.out.trans (HB68.out.mono HB6.out.size)) k9)).mono HB2.out.size)⟩
    · have HCO := Lib.hid (collide_no q S b s k z oo AT nT cT top HT.out n w2 HF.out HG.out (HT.out.sl.below HB2.out) (HX.out.below HB2.out) (HY.out.below HB2.out) hab)
      clear hF hw hpn h23 hm hs1 hs2 F G hbW2
      go_wp2_with fail
      refine HCO.out.mono ?_
      rintro _ w3 ⟨rfl, hb3⟩
      have hB8 := Blk.below HB8.out hb3 HB8.out.lt
      have hB9 := Blk.below HB9.out hb3 HB9.out.lt
      have HB3 := Lib.hid hb3
      have H83 := Lib.hid hB8
      have H93 := Lib.hid hB9
      clear a0 a1 a2 b0 b1 b2 hb3
      have a0 := (hB8.cell 0).trans (show _ = some (.slice A0 n0 c0) from rfl)
      have a1 := (hB8.cell 1).trans (show _ = some (.slice AR nR cR) from rfl)
      have a2 := (hB8.cell 2).trans (show _ = some (.slice AN nN cN) from rfl)
      clear hB8 hB9
      go_wp2_with fail
      refine (HTA.out _ HB3.out).mono ?_
      rintro _ w4 ⟨rfl, hb4⟩
      have hB9 := Blk.below H93.out hb4 H93.out.lt
      have HB4 := Lib.hid (HB3.out.trans (hb4.mono HB3.out.size))
      have H84 := Lib.hid (Blk.below H83.out hb4 H83.out.lt)
      have H94 := Lib.hid hB9
      clear a0 a1 a2 hb4
      have b0 := (hB9.cell 0).trans (show _ = some (.slice B0 m0 d0) from rfl)
      have b1 := (hB9.cell 1).trans (show _ = some (.slice BR mR dR) from rfl)
      have b2 := (hB9.cell 2).trans (show _ = some (.slice BN mN dN) from rfl)
      clear hB9
      go_wp2_with fail
      refine (HTB.out _ HB4.out).mono ?_
      rintro _ w5 ⟨rfl, hb5⟩
      have hB8 := Blk.below H84.out hb5 H84.out.lt
      have hB9 := Blk.below H94.out hb5 H94.out.lt
      have HB5 := Lib.hid (HB2.out.trans ((HB4.out.trans (hb5.mono HB4.out.size)).mono HB2.out.size))
      clear b0 b1 b2 hb5
      have a0 := (hB8.cell 0).trans (show _ = some (.slice A0 n0 c0) from rfl)
      have a1 := (hB8.cell 1).trans (show _ = some (.slice AR nR cR) from rfl)
      have b0 := (hB9.cell 0).trans (show _ = some (.slice B0 m0 d0) from rfl)
      have b1 := (hB9.cell 1).trans (show _ = some (.slice BR mR dR) from rfl)
      clear hB8 hB9
      cases hta : takenB q k la ra na top n with
      | false =>
        cases htb : takenB q k lb rb nb top n with
        | false =>
          clear hab hta htb
          go_wp2
          go_loopw [18, 19] (fun ap i wr => ap = .bool false ∧ i = vi 0 ∧ w5 = wr) (fun _ _ _ => 0)
          case atStart => exact ⟨rfl, rfl, rfl⟩
          case round =>
            obtain ⟨rfl, rfl, rfl⟩ := hrel
            go_wp2
            go_ret
            exact ⟨rfl, HB5.out⟩
        | true =>
          have hRm : mR = m0 := by rw [← HY.out.lR, ← HY.out.l0, (takenB_iff.1 htb).2.2.1]
          have tm : ((mR : Int) != (m0 : Int)) = false := by rw [hRm]; simp
          clear hab hta htb hRm
          go_wp2
          go_loopw [18, 19] (fun ap i wr => ap = .bool false ∧ i = vi 0 ∧ w5 = wr) (fun _ _ _ => 0)
          case atStart => exact ⟨rfl, rfl, rfl⟩
          case round =>
            obtain ⟨rfl, rfl, rfl⟩ := hrel
            go_wp2
            go_ret
            exact ⟨rfl, HB5.out⟩
      | true =>
        cases htb : takenB q k lb rb nb top n with
        | true => exact absurd ⟨hta, htb⟩ hab
        | false =>
          have hRn : nR = n0 := by rw [← HX.out.lR, ← HX.out.l0, (takenB_iff.1 hta).2.2.1]
          have tm : ((nR : Int) != (n0 : Int)) = false := by rw [hRn]; simp
          clear hab hta htb hRn
          go_wp2
          go_loopw [18, 19] (fun ap i wr => ap = .bool false ∧ i = vi 0 ∧ w5 = wr) (fun _ _ _ => 0)
          case atStart => exact ⟨rfl, rfl, rfl⟩
          case round =>
            obtain ⟨rfl, rfl, rfl⟩ := hrel
            go_wp2
            go_ret
            exact ⟨rfl, HB5.out⟩
end Go.Proofs.Ytmhhgaofilaalaa

/- Arguments that are structs of slices: each field opened. -/
set_option linter.unusedVariables false
namespace Go.Proofs.Ytmhhgaofilaalaa
open Go.RowKit Go.ChangeShapes Go.WideShapes Go.ChangeAt

theorem sized_agg {H : Type} {P : Program} {ts : List TypeId} {ds : List (DataW H)} (h : (DataW.weightsEach P ts ds).all (· ≤ reachBytes) = true) {j : Nat} {t : TypeId} {fs : Array Field} {parts : List (DataW H)} (ht : ts[j]? = some t) (hd : ds[j]? = some (.agg parts)) (hu : P.underlying t = some (.struct fs)) :
    (DataW.weightsEach P (fs.toList.map (·.type)) parts).all (· ≤ reachBytes) = true := by
  rw [List.all_eq_true]
  intro n hn
  refine List.all_eq_true.1 h n (DataW.weights_mem_each ht hd n ?_)
  simp only [DataW.weights, hu]; exact hn
theorem arg_ints {H : Type} {enc : TypeId × Value → H} {tys : List TypeId} {ds : List (DataW H)} (hsz : (DataW.weightsEach Try.prog tys ds).all (· ≤ reachBytes) = true) {j : Nat} (ht : tys[j]? = some 22) {W : World} {n : Nat} {u : Value} {y : DataW H × List MemPlace} (hd : ds[j]? = some y.1)
    (hf : DataW.trod enc Try.prog W 0 (fun _ => true) true n 22 [u] = some y) : ∃ A len cap zs, u = .slice A len cap ∧ ArgS W A len cap zs := by
  have lt : ∀ x ∈ y.2, x.block < W.heap.size := DataW.trod_lt n _ _ _ hf
  rcases open_ints Try.underlying22 Try.underlying3 (by kernel_rfl) hf with ⟨hcs, hx⟩ | ⟨x, l, c, zs, hcs, _, hl, hm, hz, hx, hcell, hwz⟩
  · simp at hcs
    subst hcs
    exact ⟨none, 0, 0, [], rfl, ArgS.nil _⟩
  · simp at hcs
    subst hcs
    rw [hx] at hd lt
    have hb : c * 8 ≤ 140737488351232 := by
      have h := sized_slice hsz (j := j) (t := 22) (e := 3) ht hd Try.underlying22
      rw [bytesI] at h
      simp only [lits, List.length_map, List.length_take, List.length_drop, reachBytes] at h
      have hz' : zs.length = c := by simpa using hz
      omega
    exact ⟨some x, l, c, zs.take l, rfl, ArgS.mk_ hl hm (by simpa using hz) (fun p hp' => lt p hp') hcell hwz hb⟩
theorem arg_rows {H : Type} {enc : TypeId × Value → H} {tys : List TypeId} {ds : List (DataW H)} (hsz : (DataW.weightsEach Try.prog tys ds).all (· ≤ reachBytes) = true) {j : Nat} (ht : tys[j]? = some 23) {W : World} {n : Nat} {u : Value} {y : DataW H × List MemPlace} (hd : ds[j]? = some y.1)
    (hf : DataW.trod enc Try.prog W 0 (fun _ => true) true n 23 [u] = some y) : ∃ A len cap ts, u = .slice A len cap ∧ ArgMS W A len cap ts := by
  rcases Go.Deep.open_int_rows Try.underlying23 Try.underlying22 Try.underlying3 (by kernel_rfl) (by kernel_rfl) hf with ⟨hcs, hx⟩ | ⟨x, l, c, AA, LL, CC, ZZ, hcs, _, hl, hm, hx, hrow⟩
  · simp at hcs
    subst hcs
    exact ⟨none, 0, 0, [], rfl, ArgMS.nil _⟩
  · simp at hcs
    subst hcs
    rw [hx] at hd
    exact ⟨some x, l, c, _, rfl, ArgMS.mk_ hsz (j := j) ht hd hl hm hrow⟩
end Go.Proofs.Ytmhhgaofilaalaa
