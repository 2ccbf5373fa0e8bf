/- A bundle of texts: Ry, Pl3, Ss, Oa, LawN1, Nd, Ne, Nh, Row5, Sh5, Fk, Be, Rnd, Fl. -/
import Derived.Test.YtflkiddmakeabaaGreatDoorQ08
import Derived.Test.YtflkiddmakeabaaGreatDoorQ07
import Derived.Deep.QuietTactic
import Derived.BigQuiet
import Derived.Test.YtflkiddmakeabaaGreatDoorQ03
import Derived.Test.YtflkiddmakeabaaGreatDoorQ04
import Derived.Test.YtflkiddmakeabaaGreatDoorQ05
import Derived.Lib.SmallJoins
import Derived.ChangeOld
import Derived.Below
import Derived.OpenShut
import Derived.Test.YtflkiddmakeabaaGreatDoorQ00
import Derived.Test.YtflkiddmakeabaaGreatDoorQ01
import Derived.Test.YtflkiddmakeabaaGreatDoorQ06
/- Plain: the document's check of an Opening is the program's. And the walk of the reference's Check. -/
set_option linter.unusedVariables false
namespace Go.Proofs.YtflkiddmakeabaaGreatDoor
open Go.RowKit Zp
theorem digL_congr {p k : Nat} [NeZero p] {l m : List Int} (h : els p l = els p m) : digL p k l = digL p k m := by
  have hl : l.length = m.length := by simpa [els] using congrArg List.length h
  unfold digL digE padE
  rw [h, hl]
theorem digL_row {p k : Nat} [NeZero p] (x : List Int) : digL p k (0 :: fvs (els p x)) = digL p k (0 :: x) := digL_congr (by
  show el p 0 :: els p (fvs (els p x)) = el p 0 :: els p x
  rw [els_fvs])
theorem climb_rows {H E : List Int → List Int} {r r' : Nat → List Int} (h : ∀ a, H (0 :: r a) = H (0 :: r' a)) (places : List Int) : ∀ (n a : Nat) (ns : List (List Int)), climbD H E r places a n ns = climbD H E r' places a n ns := by
  intro n
  induction n using Nat.strongRecOn with
  | ind n ih =>
    intro a ns
    by_cases hs : shownB places a n = true
    · by_cases h2 : 2 ≤ n
      · have hl := leftN_lt h2
        rw [climb_two H E r places ns hs h2, climb_two H E r' places ns hs h2, ih _ (by omega), ih _ (by omega)]
      · rw [climbD, if_pos hs, dif_neg h2, climbD, if_pos hs, dif_neg h2, h a]
    · rw [climbD, if_neg hs, climbD, if_neg hs]
/-- numbers that are elements -/
def Canon (p : Nat) [NeZero p] (l : List Int) : Prop := fvs (els p l) = l
theorem canon_fvs {p : Nat} [NeZero p] (l : List (Fin p)) : Canon p (fvs l) := by unfold Canon; rw [els_fvs]
theorem canon_digL {p k : Nat} [NeZero p] (l : List Int) : Canon p (digL p k l) := by
  have e : digL p k l = fvs ((List.range 4).map fun j => digE p k l j) := by simp [digL, fvs]
  rw [e]; exact canon_fvs _
theorem climb_canon {p k : Nat} [NeZero p] (r : Nat → List Int) (places : List Int) (n a : Nat) (ns : List (List Int)) : Canon p (climbD (digL p k) (fun x => fvs (els p x)) r places a n ns).1 := by
  rw [climbD]
  split
  · split
    · exact canon_digL _
    · exact canon_digL _
  · exact canon_fvs _
/-- what the document says of an Opening, its places in order -/
def refOk (p k : Nat) [NeZero p] (l : List Int) (rs ns : List (List Int)) (top : List Int) (n : Nat) : Bool :=
  sameE p (upD (digL p k) (fun x => fvs (els p x)) (rowAt l rs) l ns 0 n (0, false)).1 top && !(upD (digL p k) (fun x => fvs (els p x)) (rowAt l rs) l ns 0 n (0, false)).2.2 && decide ((upD (digL p k) (fun x => fvs (els p x)) (rowAt l rs) l ns 0 n (0, false)).2.1 = ns.length)
theorem refOk_taken {p k : Nat} [NeZero p] {l : List Int} {rs ns : List (List Int)} {top : List Int} {n : Nat} (h1 : 1 ≤ n) (h2 : n ≤ 65536) (ht : top.length = 4) (hr : rs.length = l.length) (ho : OkP l n) : refOk p k l rs ns top n = takenB p k l rs ns top n := by
  unfold refOk
  rw [up_taken (digL p k) (fun x => fvs (els p x)) (rowAt l rs) l ns (fun d => sameE p d top) n h1]
  have hc : climbD (digL p k) (fun x => fvs (els p x)) (fun i => fvs (els p (rowAt l rs i))) l 0 n ns = climbD (digL p k) (fun x => fvs (els p x)) (rowAt l rs) l 0 n ns := climb_rows (fun a => digL_row _) l n 0 ns
  have hk := climb_canon (k := k) (rowAt l rs) l n 0 ns (p := p)
  rw [Bool.eq_iff_iff, takenB_iff]
  unfold TakenP
  rw [Int.toNat_natCast, hc]
  generalize (climbD (digL p k) (fun x => fvs (els p x)) (rowAt l rs) l 0 n ns).1 = d at hk
  simp only [Bool.and_eq_true, decide_eq_true_eq, List.all_eq_true, sameE, eqB]
  rw [hk]
  constructor
  · rintro ⟨⟨h3, h4⟩, h5⟩
    exact ⟨⟨by omega, by omega⟩, ht, hr, ho, h3, h4, h5⟩
  · rintro ⟨_, _, _, _, h3, h4, h5⟩
    exact ⟨⟨h3, h4⟩, h5⟩
set_option maxHeartbeats 1000000 in
theorem rcheck_no (p : Int) (AT : Option Addr) (nT cT : Nat) (n : Int) (A0 : Option Addr) (n0 c0 : Nat) (AR : Option Addr) (nR cR : Nat) (v3 : Value) (hT : nT ≤ 9223372036854775807) (h0 : n0 ≤ 9223372036854775807) (hR : nR ≤ 9223372036854775807)
    (h : ¬ (1 ≤ n ∧ n ≤ 65536) ∨ nT ≠ 4 ∨ nR ≠ n0) (w : World) :
    Calls Tryz.prog 90 #[vi p, .slice AT nT cT, vi n, .slice A0 n0 c0, .slice AR nR cR, v3] w fun e w' => e = .returned (.bool false) ∧ w = w' := by
  by_cases h1 : 1 ≤ n
  · by_cases h2 : n ≤ 65536
    · by_cases h3 : nR = n0
      · have h4 : nT ≠ 4 := by
          rcases h with h | h | h
          · exact absurd ⟨h1, h2⟩ h
          · exact h
          · exact absurd h3 h
        have t1 : ((nT : Int) != 4) = true := by rw [bne_iff_ne]; omega
        subst h3
        clear h h4
        go_enter Tryz.func90, Tryz.ntmps90
        go_wp2
        go_ret
        exact ⟨rfl, rfl⟩
      · have t1 : ((nR : Int) != (n0 : Int)) = true := by rw [bne_iff_ne]; omega
        clear h h3
        go_enter Tryz.func90, Tryz.ntmps90
        go_wp2
        go_ret
        exact ⟨rfl, rfl⟩
    · have t1 : 65536 < n := by omega
      clear h h2
      go_enter Tryz.func90, Tryz.ntmps90
      go_wp2
      go_ret
      exact ⟨rfl, rfl⟩
  · have t1 : n < 1 := by omega
    clear h h1
    go_enter Tryz.func90, Tryz.ntmps90
    go_wp2
    go_ret
    exact ⟨rfl, rfl⟩
/-- what the document's check says -/
def RCheckIs (b : Bool) (w : World) (e : Ending) (w' : World) : Prop := e = .returned (.bool b) ∧ Below w.heap.size w w'
set_option maxRecDepth 100000 in
set_option maxHeartbeats 2000000 in
theorem rcheck_yes (p k : Nat) [NeZero p] (PK : Pk p k) (AT : Option Addr) (cT : Nat) (top : List Int) (hT : top.length = 4) (hTI : ∀ x ∈ top, I64 x) (N : Nat) (hN1 : 1 ≤ N) (hN2 : N ≤ 65536)
    (A0 : Option Addr) (n0 c0 : Nat) (l : List Int) (hl : l.length = n0) (hn0 : n0 ≤ 281474976710656) (AR : Option Addr) (cR : Nat) (rs : List (List Int)) (hrs : rs.length = n0) (hR : ∀ x ∈ rs, x.length * 8 ≤ 140737488351232)
    (AN : Option Addr) (nN cN : Nat) (ns : List (List Int)) (hns : ns.length = nN) (hnN2 : nN ≤ 281474976710656)
    (w : World) (sT : SL w AT top) (s0 : SL w A0 l) (tR : TB w AR rs) (tN : TB w AN ns) :
    Calls Tryz.prog 90 #[vi p, .slice AT 4 cT, vi N, .slice A0 n0 c0, .slice AR n0 cR, .slice AN nN cN] w (RCheckIs (takenB p k l rs ns top N) w) := by
  have HL := Lib.hid hl
  have HT := Lib.hid (And.intro hT hTI)
  have HRS := Lib.hid (And.intro hrs hR)
  have HNS := Lib.hid (And.intro hns hnN2)
  have HST := Lib.hid sT
  have HS0 := Lib.hid s0
  have HTR := Lib.hid tR
  have HTN := Lib.hid tN
  have hn1' : (1 : Int) ≤ (N : Int) := by omega
  have hn2' : (N : Int) ≤ 65536 := by omega
  have HN0 := Lib.hid hn0
  clear hl hT hTI hrs hR hns hnN2 sT s0 tR tN hn0
  go_enter Tryz.func90, Tryz.ntmps90
  go_wp2
  go_loopw [13] (fun i wr => ∃ j nq : Nat, j ≤ n0 ∧ i = vi j ∧ PreOk l N j ∧ wr = w.drewN nq) (fun i _ => n0 - (intOf i).toNat)
  case atStart => exact ⟨0, 0, Nat.zero_le _, rfl, PreOk.zero _ _, rfl⟩
  case round =>
    obtain ⟨j, nq, hj, rfl, hok, rfl⟩ := hrel
    have HOK := Lib.hid hok
    clear hok
    by_cases hlt : j < n0
    · have hjl : j < l.length := by rw [HL.out]; exact hlt
      obtain ⟨ad, rfl, had, hcx⟩ := (HS0.out.drewN nq).at_ hjl
      have j1 : (0 : Int) ≤ (j : Int) := by omega
      have j2 : (j : Int) < (n0 : Int) := by omega
      rw [World.cell?_drewN] at hcx
      by_cases c1 : l[j] < 0
      · have HNO : Hid (¬ TakenP p k l rs ns top N) := Lib.hid (fun g => not_okP_low hjl c1 g.2.2.2.1)
        generalize l[j] = x at c1 hcx
        have t1 : decide (x < 0) = true := decide_eq_true c1
        clear hjl had c1
        go_wp2
        go_big_quiet (fail)
        go_wp2
        go_ret
        exact ⟨ret_bool (takenB_false HNO.out).symm, below_drewN (below_drewN (Below.refl _ _) _) _⟩
      · by_cases c2 : (N : Int) ≤ l[j]
        · have HNO : Hid (¬ TakenP p k l rs ns top N) := Lib.hid (fun g => not_okP_high hjl c2 g.2.2.2.1)
          generalize l[j] = x at c1 c2 hcx
          have t1 : decide (x < 0) = false := decide_eq_false c1
          have t2 : decide ((N : Int) ≤ x) = true := decide_eq_true c2
          clear hjl had c1 c2
          go_wp2
          go_big_quiet (fail)
          go_wp2
          go_ret
          exact ⟨ret_bool (takenB_false HNO.out).symm, below_drewN (below_drewN (Below.refl _ _) _) _⟩
        · cases j with
          | zero =>
            have HOK2 := Lib.hid (HOK.out.first hjl ⟨by omega, by omega⟩)
            rw [show ad.add 0 = ad by simp [Addr.add]] at hcx
            generalize l[0] = x at c1 c2 hcx
            have t1 : decide (x < 0) = false := decide_eq_false c1
            have t2 : decide ((N : Int) ≤ x) = false := decide_eq_false c2
            clear hjl had c1 c2
            go_wp2
            go_big_quiet (fail)
            go_wp2
            go_roundw
            case rel => exact ⟨1, _, by omega, by go_num, HOK2.out, rfl⟩
            case measure => simp [intOf]; omega
          | succ j =>
            have hjl2 : j < l.length := by omega
            rw [show ((j + 1 : Nat) : Int) = (j : Int) + 1 from rfl]
            obtain ⟨ad2, e2, _, hcy⟩ := (HS0.out.drewN nq).at_ hjl2
            rw [World.cell?_drewN] at hcy
            injection e2 with e2
            subst e2
            rw [show ad.add (j + 1) = ⟨ad.block, ad.off + (j + 1), none⟩ by simp [Addr.add]] at hcx
            have j3 : (j : Int) < (n0 : Int) := by omega
            have j4 : (0 : Int) ≤ (j : Int) := by omega
            have j6 : (0 : Int) ≤ (j : Int) + 1 := by omega
            have j7 : (j : Int) + 1 < (n0 : Int) := by omega
            have j8 : (0 : Int) < (j : Int) + 1 := by omega
            have hwr : IntKind.i64.wrap ((j : Int) + 1) = (j : Int) + 1 := IntWalk.i64_in _ (by have := HN0.out; omega)
            have hw6 : wrap64 (j : Int) = (j : Int) := IntWalk.wrap64_in _ (by have := HN0.out; omega)
            have hw7 : wrap64 ((j : Int) + 1 + 1) = (j : Int) + 1 + 1 := IntWalk.wrap64_in _ (by have := HN0.out; omega)
            have hw8 : IntKind.i64.wrap ((j : Int) + 1 + 1) = (j : Int) + 1 + 1 := IntWalk.i64_in _ (by have := HN0.out; omega)
            have HJ2 := Lib.hid (And.intro hjl (And.intro hj hlt))
            by_cases c3 : l[j + 1] ≤ l[j]
            · have HNO : Hid (¬ TakenP p k l rs ns top N) := Lib.hid (fun g => not_okP_step hjl c3 g.2.2.2.1)
              generalize l[j + 1] = x at c1 c2 c3 hcx
              generalize l[j] = x' at c3 hcy
              have t1 : decide (x < 0) = false := decide_eq_false c1
              have t2 : decide ((N : Int) ≤ x) = false := decide_eq_false c2
              have t3 : decide ((0 : Int) < (j : Int) + 1) = true := decide_eq_true j8
              have t4 : decide (x ≤ x') = true := decide_eq_true c3
              clear hjl hjl2 j1 j2 hj hlt had c1 c2 c3
              go_wp2
              go_big_quiet (fail)
              go_wp2
              go_ret
              exact ⟨ret_bool (takenB_false HNO.out).symm, below_drewN (below_drewN (Below.refl _ _) _) _⟩
            · have HOK2 := Lib.hid (HOK.out.next hjl ⟨by omega, by omega⟩ (by omega))
              generalize l[j + 1] = x at c1 c2 c3 hcx
              generalize l[j] = x' at c3 hcy
              have t1 : decide (x < 0) = false := decide_eq_false c1
              have t2 : decide ((N : Int) ≤ x) = false := decide_eq_false c2
              have t3 : decide ((0 : Int) < (j : Int) + 1) = true := decide_eq_true j8
              have t4 : decide (x ≤ x') = false := decide_eq_false c3
              clear hjl hjl2 j1 j2 hj hlt had c1 c2 c3
              go_wp2
              go_big_quiet (fail)
              go_wp2
              go_roundw
              case rel => exact ⟨j + 1 + 1, _, by have := HJ2.out; omega, by go_num, HOK2.out, rfl⟩
              case measure =>
                have := HJ2.out
                simp [intOf]; omega
    · obtain rfl : j = n0 := by omega
      have HUP := Lib.hid (HOK.out.done (by rw [HL.out]; exact Nat.le_refl _))
      have hlN := HUP.out.1.len HUP.out.2
      have hjN : j ≤ 65536 := by rw [← HL.out]; omega
      have hb1 : Below w.heap.size w ((w.drewN nq).alloc (.cells #[vi p, .slice A0 j c0, .slice AR j cR, .slice AN nN cN, vi 0, .bool false] 173)) := (below_drewN (Below.refl _ _) nq).alloc (Nat.le_refl _) _
      have hB1 : Blk ((w.drewN nq).alloc (.cells #[vi p, .slice A0 j c0, .slice AR j cR, .slice AN nN cN, vi 0, .bool false] 173)) w.heap.size 173 #[vi p, .slice A0 j c0, .slice AR j cR, .slice AN nN cN, vi 0, .bool false] := Blk.new (w.drewN nq) _ _
      have hup := up_any p k PK A0 j c0 l HL.out hjN HUP.out.1 AR cR rs HRS.out.1 HRS.out.2 AN nN cN ns HNS.out.1 HNS.out.2 w HS0.out HTR.out HTN.out w.heap.size (Nat.le_refl _) N 0 hN1 (by omega) 0 false (Nat.zero_le _) _ hb1 hB1
      have href := refOk_taken (p := p) (k := k) (ns := ns) hN1 hN2 HT.out.1 (show rs.length = l.length by rw [HRS.out.1, HL.out]) HUP.out
      unfold refOk at href
      obtain ⟨⟨d, ⟨t, b⟩⟩, hr⟩ : ∃ r, r = upD (digL p k) (fun x => fvs (els p x)) (rowAt l rs) l ns 0 N (0, false) := ⟨_, rfl⟩
      rw [← hr] at hup href
      have HUPC := Lib.hid hup
      have HREF := Lib.hid href
      have HBB := Lib.hid hb1
      clear hup href hr hb1 hB1 hlN hjN hj hlt
      go_wp2_with fail
      refine HUPC.out.mono ?_
      rintro _ w1 ⟨g, c, rfl, s1, l1, i1, n1, B1, b1, gr1⟩
      have hsm := rsame_any p PK.pm (some ⟨g, 0, none⟩) AT 4 4 c cT d top l1 HT.out.1 (by omega) (by omega) i1 HT.out.2 w1 s1 (HST.out.below b1)
      have e4 := (B1.cell 4).trans (show _ = some (vi (t : Int)) from rfl)
      have e5 := (B1.cell 5).trans (show _ = some (.bool b) from rfl)
      have HSM := Lib.hid hsm
      have HB1 := Lib.hid b1
      have hnsl := HNS.out.1
      obtain ⟨sm, hsmE⟩ : ∃ sm, sm = sameE p d top := ⟨_, rfl⟩
      rw [← hsmE] at HSM HREF
      rw [hnsl] at HREF
      clear hsm b1 s1 l1 i1 n1 B1 gr1 hsmE hnsl
      cases sm
      · have HR : Hid (takenB p k l rs ns top N = false) := Lib.hid (by rw [← HREF.out]; simp)
        go_wp2_with fail
        refine HSM.out.mono ?_
        rintro _ _ ⟨rfl, rfl⟩
        go_wp2
        go_ret
        exact ⟨ret_bool HR.out.symm, HB1.out⟩
      · cases b
        · by_cases htn : t = nN
          · have HR : Hid (takenB p k l rs ns top N = true) := Lib.hid (by rw [← HREF.out]; simp [htn])
            subst htn
            go_wp2_with fail
            refine HSM.out.mono ?_
            rintro _ _ ⟨rfl, rfl⟩
            go_wp2
            go_ret
            exact ⟨ret_bool HR.out.symm, HB1.out⟩
          · have HR : Hid (takenB p k l rs ns top N = false) := Lib.hid (by rw [← HREF.out]; simp [htn])
            have t1 : ((t : Int) == (nN : Int)) = false := by rw [beq_eq_false_iff_ne]; omega
            clear htn
            go_wp2_with fail
            refine HSM.out.mono ?_
            rintro _ _ ⟨rfl, rfl⟩
            go_wp2
            go_ret
            exact ⟨ret_bool HR.out.symm, HB1.out⟩
        · have HR : Hid (takenB p k l rs ns top N = false) := Lib.hid (by rw [← HREF.out]; simp)
          go_wp2_with fail
          refine HSM.out.mono ?_
          rintro _ _ ⟨rfl, rfl⟩
          go_wp2
          go_ret
          exact ⟨ret_bool HR.out.symm, HB1.out⟩
end Go.Proofs.YtflkiddmakeabaaGreatDoor

/- law3.plain: a sponge, or none. -/
set_option linter.unusedVariables false
namespace Go.Proofs.YtflkiddmakeabaaGreatDoor
open Go.RowKit Zp

set_option maxHeartbeats 2000000 in
theorem spnew_none (p S b : Nat) [NeZero p] (h23 : p < 23) (w : World) (F : Fld w S b p) :
    Calls Tryz.prog 71 #[.pointer (some ⟨b, 0, none⟩)] w fun e w' => e = .returned (.tuple #[.pointer none, .iface 98 (.int .i64 3)]) ∧ w = w' := by
  have hcb := F.c0
  have tq : ((p : Int) < 23) = True := by simp; omega
  go_enter Tryz.func71, Tryz.ntmps71
  go_wp2_with (go_at_call 67; refine (p_any p b _ (by exact hcb)).mono ?_; rintro _ _ ⟨rfl, rfl⟩)
  go_ret2
  exact ⟨rfl, rfl⟩
end Go.Proofs.YtflkiddmakeabaaGreatDoor

/- same.Sponge: a sponge, as far as there is one, and that the program says so too. -/
set_option linter.unusedVariables false
namespace Go.Proofs.YtflkiddmakeabaaGreatDoor
open Go.RowKit Zp

/-- is there a sponge? -/
def HasSponge (p : Int) : Prop := HasField p ∧ 23 ≤ p
def NoSponge (w : World) (e : Ending) (w' : World) : Prop := SaysW (.tuple #[.pointer none, .bool true]) w e w'
theorem ssponge_no (p : Int) (hp : I64 p) (h : ¬ HasSponge p) (w : World) (hT : Typed w) :
    Calls Tryz.prog 21 #[vi p] w fun e w' => NoSponge w e w' := by
  by_cases hf : HasField p
  · obtain ⟨n, rfl⟩ := Int.eq_ofNat_of_zero_le (a := p) (by have := hf.1; omega)
    have hpn : IsPrime n := by simpa using hf.2.2
    haveI := hpn.ne
    have h23 : n < 23 := by
      rcases Nat.lt_or_ge n 23 with h1 | h1
      · exact h1
      · exact absurd ⟨hf, by omega⟩ h
    have HF := Lib.hid (sfield_yes n (by have := hf.1; omega) (by have := hf.2.1; omega) hpn w hT)
    have HS := Lib.hid (fun S b W F => spnew_none n S b h23 W F)
    have he := fun W hT => error_any 3 3 W hT
    rw [errV_ne (by decide), show ((3 : Int) == 3) = true from rfl] at he
    have HE := Lib.hid he
    have t1 : ¬ (23 : Int) ≤ (n : Int) := by omega
    clear he hf h hpn h23
    go_enter Tryz.func21, Tryz.ntmps21
    go_wp2_with fail
    refine (HF.out).mono ?_
    rintro e w1 ⟨b, rfl, F, hb1⟩
    go_wp2_with fail
    refine (HS.out _ _ _ F).mono ?_
    rintro e _ ⟨rfl, rfl⟩
    go_wp2_with fail
    refine (HE.out _ (hT.below hb1)).mono ?_
    rintro e w2 ⟨rfl, hb2⟩
    go_wp2
    go_ret2
    exact ⟨rfl, hb1.trans (hb2.mono hb1.size)⟩
  · have HF := Lib.hid (sfield_no p hp hf w hT)
    clear hf h
    go_enter Tryz.func21, Tryz.ntmps21
    go_wp2_with fail
    refine (HF.out).mono ?_
    rintro e w1 ⟨rfl, hb1⟩
    go_wp2
    go_ret2
    exact ⟨rfl, hb1⟩
def YesSponge (q : Nat) [NeZero q] (w : World) (e : Ending) (w' : World) : Prop :=
  ∃ (s b k z : Nat) (oo : Nat → Nat → Fin q), e = .returned (.tuple #[.pointer (some ⟨s, 0, none⟩), .bool true]) ∧ Fld w' w'.heap.size b q ∧ Spg w' s b k z oo ∧ w.heap.size ≤ s ∧ s < w'.heap.size ∧ Below w.heap.size w w'
theorem ssponge_yes (q : Nat) [NeZero q] (h23 : 23 ≤ q) (hm : q ≤ 2147483647) (hpr : IsPrime q) (w : World) (hT : Typed w) :
    Calls Tryz.prog 21 #[vi q] w fun e w' => YesSponge q w e w' := by
  have HF := Lib.hid (sfield_yes q (by omega) hm hpr w hT)
  have HS := Lib.hid (fun S b W F => spnew_any q S b h23 W F)
  have he := fun W hT => error_any 0 0 W hT
  rw [errV_zero, show ((0 : Int) == 0) = true from rfl] at he
  have HE := Lib.hid he
  have t1 : (23 : Int) ≤ (q : Int) := by omega
  clear he hpr h23
  go_enter Tryz.func21, Tryz.ntmps21
  go_wp2_with fail
  refine (HF.out).mono ?_
  rintro e w1 ⟨b, rfl, F, hb1⟩
  go_wp2_with fail
  refine (HS.out _ _ _ F).mono ?_
  rintro e w2 ⟨rfl, ⟨k, z, oo, G⟩, hb2⟩
  have hb12 := hb1.trans (hb2.mono hb1.size)
  have hsl := block_lt_of_cell G.c0
  go_wp2_with fail
  refine (HE.out _ (hT.below hb12)).mono ?_
  rintro e w3 ⟨rfl, hb3⟩
  go_wp2
  go_ret2
  exact ⟨_, b, k, z, oo, rfl, (F.below hb2 (Nat.le_refl _) |>.moreS hb2.size (Nat.le_refl _)).below hb3 (Nat.le_refl _) |>.moreS hb3.size (Nat.le_refl _), G.below hb3 hsl, hb1.size, Nat.lt_of_lt_of_le hsl hb3.size, hb12.trans (hb3.mono hb12.size)⟩
end Go.Proofs.YtflkiddmakeabaaGreatDoor

/- Arguments that are structs of slices: each field opened. -/
set_option linter.unusedVariables false
namespace Go.Proofs.YtflkiddmakeabaaGreatDoor
open Go.RowKit Go.ChangeShapes Go.WideShapes Go.ChangeAt

theorem sized_agg {H : Type} {P : Program} {ts : List TypeId} {ds : List (DataW H)} (h : (DataW.weightsEach P ts ds).all (· ≤ reachBytes) = true) {j : Nat} {t : TypeId} {fs : Array Field} {parts : List (DataW H)} (ht : ts[j]? = some t) (hd : ds[j]? = some (.agg parts)) (hu : P.underlying t = some (.struct fs)) :
    (DataW.weightsEach P (fs.toList.map (·.type)) parts).all (· ≤ reachBytes) = true := by
  rw [List.all_eq_true]
  intro n hn
  refine List.all_eq_true.1 h n (DataW.weights_mem_each ht hd n ?_)
  simp only [DataW.weights, hu]; exact hn
theorem arg_ints {H : Type} {enc : TypeId × Value → H} {tys : List TypeId} {ds : List (DataW H)} (hsz : (DataW.weightsEach Tryz.prog tys ds).all (· ≤ reachBytes) = true) {j : Nat} (ht : tys[j]? = some 22) {W : World} {n : Nat} {u : Value} {y : DataW H × List MemPlace} (hd : ds[j]? = some y.1)
    (hf : DataW.trod enc Tryz.prog W 0 (fun _ => true) true n 22 [u] = some y) : ∃ A len cap zs, u = .slice A len cap ∧ ArgS W A len cap zs := by
  have lt : ∀ x ∈ y.2, x.block < W.heap.size := DataW.trod_lt n _ _ _ hf
  rcases open_ints Tryz.underlying22 Tryz.underlying3 (by kernel_rfl) hf with ⟨hcs, hx⟩ | ⟨x, l, c, zs, hcs, _, hl, hm, hz, hx, hcell, hwz⟩
  · simp at hcs
    subst hcs
    exact ⟨none, 0, 0, [], rfl, ArgS.nil _⟩
  · simp at hcs
    subst hcs
    rw [hx] at hd lt
    have hb : c * 8 ≤ 140737488351232 := by
      have h := sized_slice hsz (j := j) (t := 22) (e := 3) ht hd Tryz.underlying22
      rw [bytesI] at h
      simp only [lits, List.length_map, List.length_take, List.length_drop, reachBytes] at h
      have hz' : zs.length = c := by simpa using hz
      omega
    exact ⟨some x, l, c, zs.take l, rfl, ArgS.mk_ hl hm (by simpa using hz) (fun p hp' => lt p hp') hcell hwz hb⟩
theorem arg_rows {H : Type} {enc : TypeId × Value → H} {tys : List TypeId} {ds : List (DataW H)} (hsz : (DataW.weightsEach Tryz.prog tys ds).all (· ≤ reachBytes) = true) {j : Nat} (ht : tys[j]? = some 23) {W : World} {n : Nat} {u : Value} {y : DataW H × List MemPlace} (hd : ds[j]? = some y.1)
    (hf : DataW.trod enc Tryz.prog W 0 (fun _ => true) true n 23 [u] = some y) : ∃ A len cap ts, u = .slice A len cap ∧ ArgMS W A len cap ts := by
  rcases Go.Deep.open_int_rows Tryz.underlying23 Tryz.underlying22 Tryz.underlying3 (by kernel_rfl) (by kernel_rfl) hf with ⟨hcs, hx⟩ | ⟨x, l, c, AA, LL, CC, ZZ, hcs, _, hl, hm, hx, hrow⟩
  · simp at hcs
    subst hcs
    exact ⟨none, 0, 0, [], rfl, ArgMS.nil _⟩
  · simp at hcs
    subst hcs
    rw [hx] at hd
    exact ⟨some x, l, c, _, rfl, ArgMS.mk_ hsz (j := j) ht hd hl hm hrow⟩
end Go.Proofs.YtflkiddmakeabaaGreatDoor

/- The walk of the law TreeChecks. -/
set_option linter.unusedVariables false
namespace Go.Proofs.YtflkiddmakeabaaGreatDoor
open Go.RowKit Zp
/-- the document's check, of whatever Opening -/
theorem rcheck_w (p k : Nat) [NeZero p] (PK : Pk p k) (AT : Option Addr) (nT cT : Nat) (top : List Int) (hT : ArgW nT top) (n : Int)
    {A0 : Option Addr} {n0 c0 : Nat} {l : List Int} {AR : Option Addr} {nR cR : Nat} {rs : List (List Int)} {AN : Option Addr} {nN cN : Nat} {ns : List (List Int)} (w : World) (sT : SL w AT top) (hx : OpnAt w A0 n0 c0 l AR nR cR rs AN nN cN ns) :
    Calls Tryz.prog 90 #[vi p, .slice AT nT cT, vi n, .slice A0 n0 c0, .slice AR nR cR, .slice AN nN cN] w (RCheckIs (takenB p k l rs ns top n) w) := by
  have hTl := hT.len
  have hTm := hT.max
  have hb0 := hx.b0
  have hbR := hx.bR
  have hbN := hx.bN
  by_cases h : (1 ≤ n ∧ n ≤ 65536) ∧ nT = 4 ∧ nR = n0
  · obtain ⟨⟨h1, h2⟩, rfl, rfl⟩ := h
    obtain ⟨N, rfl⟩ := Int.eq_ofNat_of_zero_le (a := n) (by omega)
    exact rcheck_yes p k PK AT cT top hTl hT.i64 N (by omega) (by omega) A0 nR c0 l hx.l0 (by omega) AR cR rs hx.lR hx.rR AN nN cN ns hx.lN (by omega) w sT hx.s0 hx.tR hx.tN
  · have hno : ¬ TakenP p k l rs ns top n := fun g => h ⟨g.1, by rw [← hTl]; exact g.2.1, by rw [← hx.lR, ← hx.l0]; exact g.2.2.1⟩
    rw [takenB_false hno]
    refine (rcheck_no p AT nT cT n A0 n0 c0 AR nR cR (.slice AN nN cN) (by omega) (by omega) (by omega) ?_ w).mono fun e w' h => ⟨h.1, by rw [h.2]; exact Below.refl _ _⟩
    by_cases c1 : 1 ≤ n ∧ n ≤ 65536
    · by_cases c2 : nT = 4
      · exact .inr (.inr fun c3 => h ⟨c1, c2, c3⟩)
      · exact .inr (.inl c2)
    · exact .inl c1
end Go.Proofs.YtflkiddmakeabaaGreatDoor

/- The reference's Root and Nodes. -/
set_option linter.unusedVariables false
namespace Go.Proofs.YtflkiddmakeabaaGreatDoor
open Go.RowKit Zp
theorem TB.take {w : World} {A : Option Addr} {ls : List (List Int)} (h : TB w A ls) (j : Nat) : TB w A (ls.take j) := fun k hk => by
  have hk' : k < ls.length := by rw [List.length_take] at hk; omega
  obtain ⟨ad, A1, n, c, h1, h2, h3, h4, h5⟩ := h k hk'
  have e : (ls.take j)[k] = ls[k] := by simp
  rw [e]
  exact ⟨ad, A1, n, c, h1, h2, h3, h4, h5⟩
theorem TB.drop {w : World} {ad : Addr} {ls : List (List Int)} (h : TB w (some ad) ls) (j : Nat) : TB w (some (ad.add j)) (ls.drop j) := fun k hk => by
  have hk' : j + k < ls.length := by rw [List.length_drop] at hk; omega
  obtain ⟨ad', A1, n, c, h1, h2, h3, h4, h5⟩ := h (j + k) hk'
  injection h1 with h1
  subst h1
  have e : (ls.drop j)[k] = ls[j + k] := by simp
  rw [e]
  exact ⟨ad.add j, A1, n, c, rfl, by rw [add_of_add]; exact h2, by rw [add_of_add]; exact h3, h4, h5⟩
/-- a digest, in a block of ints -/
def RRootIs (l : List Int) (w : World) (e : Ending) (w' : World) : Prop :=
  ∃ g cap : Nat, e = .returned (.slice (some ⟨g, 0, none⟩) 4 cap) ∧ (∃ cs, Blk w' g 3 cs) ∧ SL w' (some ⟨g, 0, none⟩) l ∧ l.length = 4 ∧ (∀ x ∈ l, I64 x) ∧ w.heap.size ≤ g ∧ Below w.heap.size w w'
theorem DigIs.root {p k : Nat} [NeZero p] (hm : p ≤ 2147483647) {l : List Int} {w w' : World} {e : Ending} (h : DigIs p k l w e w') : RRootIs (digL p k l) w e w' := by
  obtain ⟨g, cap, cs, h1, h2, h3, h4, h5, h6, h7⟩ := h
  exact ⟨g, cap, h1, ⟨cs, h5⟩, h4, digL_len _ _, i64_digL hm l, h6, h7⟩
/-- rows of four numbers, each in a block that is none of rows -/
def UsAt (w : World) (us : List Value) (ls : List (List Int)) : Prop :=
  us.length = ls.length ∧ ∀ k (h : k < us.length) (h' : k < ls.length), ∃ (g c : Nat) (t : TypeId) (cs : Array Value), us[k] = .slice (some ⟨g, 0, none⟩) 4 c ∧ Blk w g t cs ∧ t ≠ 22 ∧ (t = 3 ∨ t = 153) ∧ SL w (some ⟨g, 0, none⟩) ls[k] ∧ ls[k].length = 4 ∧ ∀ x ∈ ls[k], I64 x
theorem UsAt.nil (w : World) : UsAt w [] [] := ⟨rfl, fun k h => absurd h (by simp)⟩
theorem UsAt.below {w w' : World} {us : List Value} {ls : List (List Int)} (h : UsAt w us ls) (hb : Below w.heap.size w w') : UsAt w' us ls := ⟨h.1, fun k h1 h2 => by
  obtain ⟨g, c, t, cs, e1, e2, e3, e4, e5, e6⟩ := h.2 k h1 h2
  exact ⟨g, c, t, cs, e1, Blk.below e2 hb e2.lt, e3, e4, e5.below hb, e6⟩⟩
theorem UsAt.one {w : World} {g c : Nat} {t : TypeId} {cs : Array Value} {l : List Int} (h1 : Blk w g t cs) (h2 : t ≠ 22) (h3 : t = 3 ∨ t = 153) (h4 : SL w (some ⟨g, 0, none⟩) l) (h5 : l.length = 4) (h6 : ∀ x ∈ l, I64 x) : UsAt w [.slice (some ⟨g, 0, none⟩) 4 c] [l] :=
  ⟨rfl, fun k hk hk' => by
    have e : k = 0 := by simp at hk; omega
    subst e
    exact ⟨g, c, t, cs, rfl, h1, h2, h3, h4, h5, h6⟩⟩
/-- kept while a block of rows, or the struct, is turned -/
theorem UsAt.far {w w' : World} {us : List Value} {ls : List (List Int)} {x : Nat} {tx : TypeId} {cx : Array Value} (h : UsAt w us ls) (hx : Blk w x tx cx) (ht : tx = 22 ∨ tx = 70) (hg : w.grownBy w' (some x)) : UsAt w' us ls := ⟨h.1, fun k h1 h2 => by
  obtain ⟨g, c, t, cs, e1, e2, e3, e4, e5, e6⟩ := h.2 k h1 h2
  have hgx : g ≠ x := Blk.ne_ e2 hx (by
    rcases ht with rfl | rfl
    · exact e3
    · rcases e4 with rfl | rfl <;> decide)
  exact ⟨g, c, t, cs, e1, Blk.grown e2 hg (by intro e; injection e with e; exact hgx e), e3, e4, e5.far hg hgx, e6⟩⟩
end Go.Proofs.YtflkiddmakeabaaGreatDoor

/- The reference's Nodes. -/
set_option linter.unusedVariables false
namespace Go.Proofs.YtflkiddmakeabaaGreatDoor
open Go.RowKit Zp
end Go.Proofs.YtflkiddmakeabaaGreatDoor

/- An Opening in the making; the reference's Open. -/
set_option linter.unusedVariables false
namespace Go.Proofs.YtflkiddmakeabaaGreatDoor
open Go.RowKit Zp
/-- an Opening in the making: its rows so far -/
structure BldR (w : World) (B ob : Nat) (ov rv : Value) (us : List Value) (rs : List (List Int)) : Prop where
  blk : Blk w ob 70 #[ov, rv, .slice none 0 0]
  lo : ob < B
  sz : B ≤ w.heap.size
  ro : OwnR w B rv us
  rr : RowsOwn w B us rs
theorem BldR.below {w w' : World} {B ob : Nat} {ov rv : Value} {us : List Value} {rs : List (List Int)} (h : BldR w B ob ov rv us rs) (hb : Below w.heap.size w w') : BldR w' B ob ov rv us rs :=
  ⟨Blk.below h.blk hb h.blk.lt, h.lo, Nat.le_trans h.sz hb.size, OwnR.below h.ro hb, h.rr.below hb⟩
theorem BldR.push {w w' : World} {B ob : Nat} {ov rv u v' : Value} {us : List Value} {rs : List (List Int)} {l : List Int} (h : BldR w B ob ov rv us rs) (hu : Own w B u l) (hg : GrewR w w' B rv v' (us ++ [u])) :
    Blk w' ob 70 #[ov, rv, .slice none 0 0] ∧ BldR (w'.setCell ⟨ob, 1, none⟩ v') B ob ov v' (us ++ [u]) (rs ++ [l]) ∧ ∀ (C : Nat) (w0 : World), C ≤ ob → Below C w0 w → C ≤ w.heap.size → Below C w0 (w'.setCell ⟨ob, 1, none⟩ v') := by
  have hne : some ob ≠ rv.ownBlock := fun e => by
    have := (World.ownsRow.lt h.ro ob e.symm).1
    have := h.lo
    omega
  have hb := Blk.grown h.blk hg.grown hne
  have hr := (hg.rows h.ro h.rr).snoc (hu.grown hg.grown (own_ne hu h.ro))
  have hs : w'.grownBy (w'.setCell ⟨ob, 1, none⟩ v') (some ob) := blk_grown
  refine ⟨hb, ⟨hb.set_ 1 v', h.lo, Nat.le_trans h.sz (Nat.le_trans hg.grown.size hs.size), ownR_past hg.own hs h.lo, rowsOwn_past hr hs h.lo⟩, fun C w0 hC h0 hCs => ?_⟩
  have hCB : C ≤ B := Nat.le_trans hC (Nat.le_of_lt h.lo)
  exact (hg.below h0 h.ro hCB hCs).grown hs (Nat.le_trans hCs hg.grown.size) (fun x hx => by injection hx with hx; omega)
/-- the blocks of ints, of rows and of arrays of ints are as they were -/
def Safe (w w' : World) : Prop := w.heap.size ≤ w'.heap.size ∧ ∀ t, t = 3 ∨ t = 22 ∨ t = 153 → ∀ x cs, Blk w x t cs → w'.heap[x]? = w.heap[x]?
theorem Safe.refl (w : World) : Safe w w := ⟨Nat.le_refl _, fun _ _ _ _ _ => rfl⟩
theorem Safe.trans {a b c : World} (h : Safe a b) (g : Safe b c) : Safe a c := ⟨Nat.le_trans h.1 g.1, fun t ht x cs hx => by
  have h1 := h.2 t ht x cs hx
  exact (g.2 t ht x cs (h1.trans hx)).trans h1⟩
theorem Safe.of {w w' : World} (h : Below w.heap.size w w') : Safe w w' := ⟨h.size, fun t ht x cs hx => h.block x (Blk.lt hx)⟩
theorem Safe.one {w w' : World} {r : Nat} {t : TypeId} {cs : Array Value} (h : w.grownBy w' (some r)) (hr : Blk w r t cs) (ht : t ≠ 3 ∧ t ≠ 22 ∧ t ≠ 153) : Safe w w' :=
  ⟨h.size, fun u hu x cx hx => h.block x (Blk.lt hx) (fun e => by
    injection e with e
    exact Blk.ne_ hx hr (by rintro rfl; rcases hu with e' | e' | e' <;> first | exact ht.1 e' | exact ht.2.1 e' | exact ht.2.2 e') e)⟩
end Go.Proofs.YtflkiddmakeabaaGreatDoor

/- The walk of ref5.Row. -/
set_option linter.unusedVariables false
namespace Go.Proofs.YtflkiddmakeabaaGreatDoor
open Go.RowKit Zp
/-- a row is handed back -/
def RowIs (x : List Int) (w : World) (e : Ending) (w' : World) : Prop := ∃ A1 n1 c1, e = .returned (.slice A1 n1 c1) ∧ x.length = n1 ∧ n1 < 9223372036854775808 ∧ SL w' A1 x ∧ (∀ y ∈ x, I64 y) ∧ Below w.heap.size w w'
set_option maxRecDepth 100000 in
set_option maxHeartbeats 1000000 in
theorem rrow5_any (A0 : Option Addr) (n0 c0 : Nat) (l : List Int) (hl : l.length = n0) (hn0 : n0 * 8 ≤ 140737488351232) (AR : Option Addr) (nR cR : Nat) (rs : List (List Int)) (hR : rs.length = nR) (v3 : Value) (place : Int) (j : Nat) (hj : j < l.length) (hjR : j < rs.length) (hlj : l[j] = place) (hno : ∀ t (h : t < l.length), t < j → l[t] ≠ place)
    (w : World) (hs : SL w A0 l) (hT : TB w AR rs) :
    Calls Tryz.prog 91 #[.agg #[.slice A0 n0 c0, .slice AR nR cR, v3], vi place] w (RowIs rs[j] w) := by
  have hb0 : Below w.heap.size w (w.alloc (.cells #[.slice A0 n0 c0, .slice AR nR cR, v3] 70)) := (Below.refl _ _).alloc (Nat.le_refl _) _
  have hB := Blk.new w 70 #[.slice A0 n0 c0, .slice AR nR cR, v3]
  obtain ⟨W, hW⟩ : ∃ W, W = w.alloc (.cells #[.slice A0 n0 c0, .slice AR nR cR, v3] 70) := ⟨_, rfl⟩
  rw [← hW] at hb0 hB
  have e0 := (hB.cell 0).trans (show _ = some (.slice A0 n0 c0) from rfl)
  have e1 := (hB.cell 1).trans (show _ = some (.slice AR nR cR) from rfl)
  have HW := Lib.hid hW
  have HS := Lib.hid (hs.below hb0)
  obtain ⟨bd, A1, n1, c1, rfl, hb1, hc1, hl1, hn1, hs1, hi1⟩ := (hT.below hb0) j hjR
  have HX := Lib.hid (And.intro hl1 (And.intro hn1 (And.intro hs1 (And.intro hi1 hb0))))
  have HL := Lib.hid hl
  have HN := Lib.hid hn0
  have HNO := Lib.hid hno
  have HJ := Lib.hid (And.intro hj hlj)
  have j1 : (0 : Int) ≤ (j : Int) := by omega
  have j2 : (j : Int) < (nR : Int) := by omega
  have hj0 : j < n0 := by omega
  clear hW hB hb0 hl1 hn1 hs1 hi1 hs hT hl hn0 hno hR
  go_enter Tryz.func91, Tryz.ntmps91
  go_upto_region 1 with (fail)
  rw [← HW.out]
  go_wp2
  go_loopw [5] (fun i wr => ∃ t : Nat, t ≤ j ∧ i = vi t ∧ W = wr) (fun i _ => n0 - (intOf i).toNat)
  case atStart => exact ⟨0, Nat.zero_le _, rfl, rfl⟩
  case round =>
    obtain ⟨t, ht, rfl, rfl⟩ := hrel
    have htl : t < l.length := by have := HL.out; omega
    obtain ⟨ad, rfl, _, hcx⟩ := HS.out.at_ htl
    have i1 : (0 : Int) ≤ (t : Int) := by omega
    have i2 : (t : Int) < (n0 : Int) := by omega
    have hwr : IntKind.i64.wrap ((t : Int) + 1) = (t : Int) + 1 := IntWalk.i64_in _ (by have := HN.out; omega)
    by_cases htj : t < j
    · have hne := HNO.out t htl htj
      generalize l[t] = x at hcx hne
      have t1 : (x == place) = false := by rw [beq_eq_false_iff_ne]; exact hne
      clear hne htl
      go_wp2
      go_roundw
      case rel => exact ⟨t + 1, by omega, by go_num, trivial⟩
      case measure => simp [intOf]; omega
    · have et : t = j := by omega
      subst et
      have hx := HJ.out.2
      rw [hx] at hcx
      have t1 : (place == place) = true := by simp
      clear htl hx ht
      go_wp2
      go_ret
      exact ⟨A1, n1, c1, rfl, HX.out.1, HX.out.2.1, HX.out.2.2.1, HX.out.2.2.2.1, HX.out.2.2.2.2⟩
end Go.Proofs.YtflkiddmakeabaaGreatDoor

/- The walk of ref5.Shows. -/
set_option linter.unusedVariables false
namespace Go.Proofs.YtflkiddmakeabaaGreatDoor
open Go.RowKit Zp
/-- does an Opening show just these places, in rows of two? -/
noncomputable def showF (p k : Nat) [NeZero p] (l : List Int) (rs ns : List (List Int)) (top : List Int) (n : Int) (want : List Int) : Bool := eqB l want && (rs.all (fun x => decide (x.length = 2)) && takenB p k l rs ns top n)
set_option maxRecDepth 100000 in
set_option maxHeartbeats 2000000 in
theorem rshows_any (p k : Nat) [NeZero p] (PK : Pk p k) (AT : Option Addr) (nT cT : Nat) (top : List Int) (hT : ArgW nT top) (n : Int) (AW : Option Addr) (mW cW : Nat) (lw : List Int) (hlw : lw.length = mW) (hmW : mW * 8 ≤ 140737488351232)
    {A0 : Option Addr} {n0 c0 : Nat} {l : List Int} {AR : Option Addr} {nR cR : Nat} {rs : List (List Int)} {AN : Option Addr} {nN cN : Nat} {ns : List (List Int)} (w : World) (sT : SL w AT top) (sW : SL w AW lw) (hx : OpnAt w A0 n0 c0 l AR nR cR rs AN nN cN ns) :
    Calls Tryz.prog 44 #[vi p, .slice AT nT cT, vi n, .agg #[.slice A0 n0 c0, .slice AR nR cR, .slice AN nN cN], .slice AW mW cW, vi 2] w (RCheckIs (showF p k l rs ns top n lw) w) := by
  have hb0 : Below w.heap.size w (w.alloc (.cells #[.slice A0 n0 c0, .slice AR nR cR, .slice AN nN cN] 70)) := (Below.refl _ _).alloc (Nat.le_refl _) _
  have hB := Blk.new w 70 #[.slice A0 n0 c0, .slice AR nR cR, .slice AN nN cN]
  obtain ⟨W, hW⟩ : ∃ W, W = w.alloc (.cells #[.slice A0 n0 c0, .slice AR nR cR, .slice AN nN cN] 70) := ⟨_, rfl⟩
  rw [← hW] at hb0 hB
  have d0 := (hB.cell 0).trans (show _ = some (.slice A0 n0 c0) from rfl)
  have d1 := (hB.cell 1).trans (show _ = some (.slice AR nR cR) from rfl)
  have d2 := (hB.cell 2).trans (show _ = some (.slice AN nN cN) from rfl)
  have HW := Lib.hid hW
  have HX := Lib.hid (hx.below hb0)
  have HSW := Lib.hid (sW.below hb0)
  have HST := Lib.hid (sT.below hb0)
  have HB0 := Lib.hid hb0
  have HLW := Lib.hid (And.intro hlw hmW)
  have HTT := Lib.hid hT
  have HPK := Lib.hid PK
  clear hB hW hb0 hx sW sT hlw hmW hT PK
  by_cases hlen : n0 = mW
  · have t1 : ((n0 : Int) != (mW : Int)) = false := by simp [hlen]
    have HE := Lib.hid hlen
    clear hlen
    go_enter Tryz.func44, Tryz.ntmps44
    go_upto_region 1 with (fail)
    rw [← HW.out]
    go_wp2
    go_loopw [13] (fun i wr => ∃ t q : Nat, t ≤ mW ∧ i = vi t ∧ l.take t = lw.take t ∧ wr = W.drewN q) (fun i _ => mW - (intOf i).toNat)
    case atStart => exact ⟨0, 0, Nat.zero_le _, rfl, by simp, rfl⟩
    case round =>
      obtain ⟨t, q, ht, rfl, heq, rfl⟩ := hrel
      have HEQ := Lib.hid heq
      clear heq
      by_cases hlt : t < mW
      · have h1 : t < l.length := by rw [HX.out.l0, HE.out]; exact hlt
        have h2 : t < lw.length := by rw [HLW.out.1]; exact hlt
        obtain ⟨ad, rfl, _, hc1⟩ := HX.out.s0.at_ h1
        obtain ⟨bd, rfl, _, hc2⟩ := HSW.out.at_ h2
        have i1 : (0 : Int) ≤ (t : Int) := by omega
        have i2 : (t : Int) < (mW : Int) := by omega
        have i3 : (t : Int) < (n0 : Int) := by have := HE.out; omega
        have hwr : IntKind.i64.wrap ((t : Int) + 1) = (t : Int) + 1 := IntWalk.i64_in _ (by have := HLW.out.2; omega)
        by_cases hxy : l[t] = lw[t]
        · have HT := Lib.hid (take_snoc h1 h2 hxy HEQ.out)
          have t2 : (l[t] != lw[t]) = false := by simp [hxy]
          generalize l[t] = x at hc1 hxy t2
          generalize lw[t] = y at hc2 hxy t2
          clear hxy h1 h2
          go_wp2
          go_quiet (fail)
          go_wp2
          go_roundw
          case rel => exact ⟨t + 1, _, by omega, by go_num, HT.out, rfl⟩
          case measure => simp [intOf]; omega
        · have HNE := Lib.hid (take_ne h1 h2 hxy)
          have t2 : (l[t] != lw[t]) = true := by rw [bne_iff_ne]; exact hxy
          generalize l[t] = x at hc1 hxy t2
          generalize lw[t] = y at hc2 hxy t2
          clear hxy h1 h2
          have HF : Hid (showF p k l rs ns top n lw = false) := Lib.hid (by unfold showF; rw [eqB_false HNE.out]; rfl)
          go_wp2
          go_quiet (fail)
          go_wp2
          go_ret
          exact ⟨ret_bool HF.out.symm, below_drewN (below_drewN HB0.out _) _⟩
      · have et : t = mW := by omega
        have hEq : l = lw := by
          have h := HEQ.out
          rw [et] at h
          rwa [List.take_of_length_le (by rw [HX.out.l0, HE.out]; exact Nat.le_refl _), List.take_of_length_le (by rw [HLW.out.1]; exact Nat.le_refl _)] at h
        have HQ := Lib.hid hEq
        have hbV : Below W.heap.size W (W.drewN q) := below_drewN (Below.refl _ _) q
        obtain ⟨V, hV⟩ : ∃ V, V = W.drewN q := ⟨_, rfl⟩
        have v0 : V.cell? ⟨w.heap.size, 0, none⟩ = some (.slice A0 n0 c0) := by rw [hV]; exact d0
        have v1 : V.cell? ⟨w.heap.size, 1, none⟩ = some (.slice AR nR cR) := by rw [hV]; exact d1
        have v2 : V.cell? ⟨w.heap.size, 2, none⟩ = some (.slice AN nN cN) := by rw [hV]; exact d2
        rw [← hV] at hbV ⊢
        have HRC := Lib.hid (rcheck_w p k HPK.out AT nT cT top HTT.out n V (HST.out.below hbV) (HX.out.below hbV))
        have HXV := Lib.hid (HX.out.below hbV)
        have HBV := Lib.hid (HB0.out.trans (hbV.mono HB0.out.size))
        clear hEq hV hbV et
        go_wp2
        go_loopw [14] (fun i wr => ∃ t : Nat, t ≤ nR ∧ i = vi t ∧ (∀ j (h : j < rs.length), j < t → rs[j].length = 2) ∧ V = wr) (fun i _ => nR - (intOf i).toNat)
        case atStart => exact ⟨0, Nat.zero_le _, rfl, fun j _ hj => absurd hj (Nat.not_lt_zero _), rfl⟩
        case round =>
          obtain ⟨u, hu, rfl, hall, rfl⟩ := hrel
          have HA := Lib.hid hall
          clear hall
          by_cases hlu : u < nR
          · have h1 : u < rs.length := by rw [HXV.out.lR]; exact hlu
            obtain ⟨bd, A1, n1, c1, rfl, hb1, hc1, hl1, hn1, hs1, hz1⟩ := HXV.out.tR u h1
            have i1 : (0 : Int) ≤ (u : Int) := by omega
            have i2 : (u : Int) < (nR : Int) := by omega
            have hwr : IntKind.i64.wrap ((u : Int) + 1) = (u : Int) + 1 := IntWalk.i64_in _ (by have := HXV.out.bR; omega)
            by_cases h2 : n1 = 2
            · have t2 : ((n1 : Int) != 2) = false := by simp [h2]
              have HN : Hid (∀ j (h : j < rs.length), j < u + 1 → rs[j].length = 2) := Lib.hid fun j h hj => by
                by_cases e : j < u
                · exact HA.out j h e
                · obtain rfl : j = u := by omega
                  rw [hl1, h2]
              clear hl1 hs1 hz1 h2 h1
              go_wp2
              go_roundw
              case rel => exact ⟨u + 1, by omega, by go_num, HN.out, trivial⟩
              case measure => simp [intOf]; omega
            · have t2 : ((n1 : Int) != 2) = true := by rw [bne_iff_ne]; omega
              have HF : Hid (showF p k l rs ns top n lw = false) := Lib.hid (by
                have : rs.all (fun x => decide (x.length = 2)) = false := by
                  rw [List.all_eq_false]
                  exact ⟨_, List.getElem_mem h1, by simp; omega⟩
                unfold showF; rw [this]; simp)
              clear hl1 hs1 hz1 h2 h1
              go_wp2
              go_ret
              exact ⟨ret_bool HF.out.symm, HBV.out⟩
          · have HF : Hid (showF p k l rs ns top n lw = takenB p k l rs ns top n) := Lib.hid (by
              have : rs.all (fun x => decide (x.length = 2)) = true := by
                rw [List.all_eq_true]
                intro x hx
                obtain ⟨j, hj, rfl⟩ := List.mem_iff_getElem.1 hx
                exact decide_eq_true (HA.out j hj (by have := HXV.out.lR; omega))
              unfold showF; rw [this, eqB_true HQ.out]; simp)
            go_wp2_with fail
            refine HRC.out.mono ?_
            rintro _ w5 ⟨rfl, hb5⟩
            rw [← HF.out]
            go_wp2
            go_ret
            exact ⟨rfl, HBV.out.trans (hb5.mono HBV.out.size)⟩
  · have t1 : ((n0 : Int) != (mW : Int)) = true := by rw [bne_iff_ne]; omega
    have HF : Hid (showF p k l rs ns top n lw = false) := Lib.hid (by
      unfold showF
      rw [eqB_false (fun e => hlen (by rw [← HX.out.l0, ← HLW.out.1, e]))]; rfl)
    clear hlen
    go_enter Tryz.func44, Tryz.ntmps44
    go_upto_region 1 with (fail)
    rw [← HW.out]
    go_wp2
    go_ret
    exact ⟨ret_bool HF.out.symm, HB0.out⟩
end Go.Proofs.YtflkiddmakeabaaGreatDoor

/- Plain: what is looked at when somebody shows that a word is of low degree. -/
set_option linter.unusedVariables false
namespace Go.Proofs.YtflkiddmakeabaaGreatDoor
open Go.RowKit Zp
section
variable (p k : Nat) [NeZero p]
/-- the digest when i roots were taken, each with a draw behind it -/
def dgR (D : List Int) (roots : List (List Int)) : Nat → List Int
  | 0 => D
  | i + 1 => drawnL p k (digL p k (3 :: (dgR D roots i ++ roots.getD i [])))
/-- what is drawn behind root i -/
def drR (D : List Int) (roots : List (List Int)) (i : Nat) : Int := (dgR p k D roots (i + 1)).getD 0 0
/-- the digest behind all of it -/
def dgL (D : List Int) (roots : List (List Int)) (last : List Int) : List Int := digL p k (3 :: (dgR p k D roots roots.length ++ last))
end
/-- the shift of a domain that was halved i times -/
def sqI {p : Nat} [NeZero p] (s : Fin p) : Nat → Fin p
  | 0 => s
  | i + 1 => sqI s i * sqI s i
/-- how many points a domain of 2^e has that was halved i times -/
def nI (e i : Nat) : Nat := 2 ^ (e - i)
theorem nI_pos (e i : Nat) : 1 ≤ nI e i := Nat.pow_pos (by omega)
theorem nI_step {e i : Nat} (h : i < e) : nI e i = 2 * nI e (i + 1) := by
  unfold nI
  rw [show e - i = (e - (i + 1)) + 1 by omega, Nat.pow_succ]
  omega
theorem nI_le {e : Nat} (he : e ≤ 16) (i : Nat) : nI e i ≤ 65536 := by
  unfold nI
  exact Nat.le_trans (Nat.pow_le_pow_right (by omega) (show e - i ≤ 16 by omega)) (by decide)
/-- how many rounds there are -/
def rndK (j : Nat) : Nat := j - 2
section
variable (p : Nat) [NeZero p] (s : Fin p) (e : Nat) (opens : List OpnI) (dr : Nat → Int) (last : List Int) (R : Nat)
/-- a row of two at a place that an Opening shows -/
def rowO (o : OpnI) (pl : Int) : List Int := o.rs.getD (lowB o.l pl) []
def opnO (opens : List OpnI) (i : Nat) : OpnI := opens.getD i ⟨[], [], []⟩
/-- what a place becomes in round i -/
noncomputable def isO (i : Nat) (place : Int) : Fin p :=
  let h := nI e (i + 1)
  let pl := place % (h : Int)
  let row := rowO (opnO opens i) pl
  foldE (el p (row.getD 0 0)) (el p (row.getD 1 0)) (el p (dr i)) (sqI s i * pw (rootI p ((nI e i : Nat) : Int)) pl.toNat)
/-- what it should be -/
noncomputable def wantO (i : Nat) (place : Int) : Fin p :=
  let h := nI e (i + 1)
  let pl := place % (h : Int)
  if i + 1 = R then ev (els p last) (sqI s R * pw (rootI p ((nI e R : Nat) : Int)) pl.toNat)
  else
    let h2 := nI e (i + 2)
    el p ((rowO (opnO opens (i + 1)) (pl % (h2 : Int))).getD (pl / (h2 : Int)).toNat 0)
/-- does a place go through all rounds? -/
noncomputable def goesO (place : Int) : Bool := (List.range R).all fun i => decide (isO p s e opens dr i place = wantO p s e opens last R i place)
end
/-- is it taken, when the places are drawn? -/
noncomputable def checkO (p k : Nat) [NeZero p] (s : Fin p) (e j : Nat) (f : FldI) (dr : Nat → Int) (places : List Int) : Bool :=
  (List.range (rndK j)).all (fun i => showF p k (opnO f.opens i).l (opnO f.opens i).rs (opnO f.opens i).ns (f.roots.getD i []) ((nI e (i + 1) : Nat) : Int) (onceL (modL places (nI e (i + 1))))) &&
    places.all (fun x => goesO p s e f.opens dr f.last (rndK j) x)
theorem lowB_mem {l : List Int} (h : Asc l) {x : Int} (hx : x ∈ l) : lowB l x < l.length ∧ l[lowB l x]? = some x := by
  obtain ⟨j, hj, rfl⟩ := List.mem_iff_getElem.1 hx
  have e : lowB l l[j] = j := lowB_of _ (by omega) (fun i hi y hy => by
    have hil : i < l.length := by omega
    rw [List.getElem?_eq_getElem hil] at hy
    injection hy with hy
    have := h.at_lt hi hj
    omega) (fun y hy => by
    rw [List.getElem?_eq_getElem hj] at hy
    injection hy with hy
    omega)
  rw [e]
  exact ⟨hj, List.getElem?_eq_getElem hj⟩
/-- an Opening that shows a place, in rows of two -/
structure OkO (o : OpnI) (pl : Int) : Prop where
  asc : Asc o.l
  len : o.rs.length = o.l.length
  max : o.l.length ≤ 65536
  mem : pl ∈ o.l
  two : ∀ r ∈ o.rs, r.length = 2
theorem OkO.at_ {o : OpnI} {pl : Int} (h : OkO o pl) : ∃ hj : lowB o.l pl < o.rs.length, rowO o pl = o.rs[lowB o.l pl] ∧ o.rs[lowB o.l pl].length = 2 := by
  have h1 := lowB_mem h.asc h.mem
  have hj : lowB o.l pl < o.rs.length := by rw [h.len]; exact h1.1
  refine ⟨hj, ?_, h.two _ (List.getElem_mem hj)⟩
  unfold rowO
  rw [List.getD_eq_getElem?_getD, List.getElem?_eq_getElem hj, Option.getD_some]
theorem OkO.find {o : OpnI} {pl : Int} (h : OkO o pl) : ∃ j, ∃ hj : j < o.l.length, ∃ hr : j < o.rs.length, o.l[j] = pl ∧ (∀ t (ht : t < o.l.length), t < j → o.l[t] ≠ pl) ∧ rowO o pl = o.rs[j] ∧ o.rs[j].length = 2 := by
  have h1 := lowB_mem h.asc h.mem
  obtain ⟨hj, h2, h3⟩ := h.at_
  refine ⟨lowB o.l pl, h1.1, hj, ?_, fun t ht hlt => ?_, h2, h3⟩
  · have := h1.2
    rw [List.getElem?_eq_getElem h1.1] at this
    injection this
  · have := lowB_lt pl o.l t hlt ht
    omega
/-- two of a list of two -/
theorem two_of {l : List Int} (h : l.length = 2) : ∃ x y, l = [x, y] := by
  match l, h with
  | [x, y], _ => exact ⟨x, y, rfl⟩
end Go.Proofs.YtflkiddmakeabaaGreatDoor

/- Small facts: a block that was made just now. -/
set_option linter.unusedVariables false
namespace Go.Proofs.YtflkiddmakeabaaGreatDoor
open Go.RowKit
theorem Blk.of_eq {w w' : World} {t : TypeId} {cs : Array Value} (h : w' = w.alloc (.cells cs t)) : Blk w' w.heap.size t cs := by rw [h]; exact Blk.new _ _ _
theorem below_of_eq {w w' : World} {o : Obj} (h : w' = w.alloc o) : Below w.heap.size w w' := by rw [h]; exact (Below.refl _ _).alloc (Nat.le_refl _) _
end Go.Proofs.YtflkiddmakeabaaGreatDoor

/- Walks: round.shown$1, round.row. -/
set_option linter.unusedVariables false
namespace Go.Proofs.YtflkiddmakeabaaGreatDoor
open Go.RowKit Zp
theorem shown1_any (A1 : Option Addr) (n1 c1 : Nat) (x : List Int) (hx : x.length = n1) (hn : n1 ≤ 9223372036854775807) (w : World) :
    Calls Tryz.prog 81 #[.slice A1 n1 c1] w fun e w' => e = .returned (.bool (decide (x.length ≠ 2))) ∧ w = w' := by
  have HX := Lib.hid hx
  by_cases h4 : n1 = 2
  · have HR := Lib.hid (show decide (x.length ≠ 2) = false by rw [hx, h4]; rfl)
    clear hx
    subst h4
    go_enter Tryz.func81, Tryz.ntmps81
    go_wp2
    go_ret
    exact ⟨ret_bool HR.out.symm, rfl⟩
  · have HR := Lib.hid (show decide (x.length ≠ 2) = true by rw [hx]; simpa using h4)
    have t1 : ((n1 : Int) != 2) = true := by rw [bne_iff_ne]; omega
    clear hx h4
    go_enter Tryz.func81, Tryz.ntmps81
    go_wp2
    go_ret
    exact ⟨ret_bool HR.out.symm, rfl⟩
set_option maxRecDepth 100000 in
set_option maxHeartbeats 1000000 in
theorem roundrow_any (D : Nat) (r : Int) (A0 : Option Addr) (n0 c0 : Nat) (l : List Int) (hl : l.length = n0) (hn0 : n0 ≤ 65536) (hup : Asc l) (AR : Option Addr) (nR cR : Nat) (rs : List (List Int)) (hR : rs.length = nR) (v3 : Value) (i : Int) (hjR : lowB l i < rs.length) (w : World) (hs : SL w A0 l) (hT : TB w AR rs) :
    Calls Tryz.prog 83 #[.agg #[.pointer (some ⟨D, 0, none⟩), vi r, .slice A0 n0 c0, .slice AR nR cR, v3], vi i] w (RowIs rs[lowB l i] w) := by
  have hb0 : Below w.heap.size w (w.alloc (.cells #[.pointer (some ⟨D, 0, none⟩), vi r, .slice A0 n0 c0, .slice AR nR cR, v3] 75)) := (Below.refl _ _).alloc (Nat.le_refl _) _
  have hB := Blk.new w 75 #[.pointer (some ⟨D, 0, none⟩), vi r, .slice A0 n0 c0, .slice AR nR cR, v3]
  obtain ⟨W, hW⟩ : ∃ W, W = w.alloc (.cells #[.pointer (some ⟨D, 0, none⟩), vi r, .slice A0 n0 c0, .slice AR nR cR, v3] 75) := ⟨_, rfl⟩
  rw [← hW] at hb0 hB
  have e2 := (hB.cell 2).trans (show _ = some (.slice A0 n0 c0) from rfl)
  have e3 := (hB.cell 3).trans (show _ = some (.slice AR nR cR) from rfl)
  have HW := Lib.hid hW
  have HBS := Lib.hid (bsearch_any A0 n0 c0 l hl (by omega) hup i W (hs.below hb0))
  obtain ⟨j, hj⟩ : ∃ j, j = lowB l i := ⟨_, rfl⟩
  rw [← hj] at HBS
  have hjR' : j < rs.length := by rw [hj]; exact hjR
  have ers : rs[lowB l i] = rs[j] := by simp only [hj]
  rw [ers]
  obtain ⟨bd, A1, n1, c1, rfl, hb1, hc1, hl1, hn1, hs1, hi1⟩ := (hT.below hb0) j hjR'
  have HX := Lib.hid (And.intro hl1 (And.intro hn1 (And.intro hs1 (And.intro hi1 hb0))))
  have j1 : (0 : Int) ≤ (j : Int) := by omega
  have j2 : (j : Int) < (nR : Int) := by omega
  clear hW hB hb0 hl1 hn1 hs1 hi1 hs hT hl hn0 hR hup hj ers
  go_enter Tryz.func83, Tryz.ntmps83
  go_upto_region 1 with (fail)
  rw [← HW.out]
  go_wp2_with fail
  refine HBS.out.mono ?_
  rintro _ _ ⟨⟨b, rfl⟩, rfl⟩
  go_wp2
  go_ret
  exact ⟨A1, n1, c1, rfl, HX.out.1, HX.out.2.1, HX.out.2.2.1, HX.out.2.2.2.1, HX.out.2.2.2.2⟩
end Go.Proofs.YtflkiddmakeabaaGreatDoor

/- The walk of fold.follows. -/
set_option linter.unusedVariables false
namespace Go.Proofs.YtflkiddmakeabaaGreatDoor
open Go.RowKit Zp
/-- a round at place i of a table -/
def RndE (w : World) (ad : Addr) (i : Nat) (D : Nat) (dr : Int) (o : OpnI) : Prop :=
  ∃ A0 n0 c0 AR nR cR AN nN cN, w.cell? (ad.add (i * 5)) = some (.pointer (some ⟨D, 0, none⟩)) ∧ w.cell? (ad.add (i * 5 + 1)) = some (vi dr) ∧ w.cell? (ad.add (i * 5 + 2)) = some (.slice A0 n0 c0) ∧ w.cell? (ad.add (i * 5 + 3)) = some (.slice AR nR cR) ∧ w.cell? (ad.add (i * 5 + 4)) = some (.slice AN nN cN) ∧ OpnAt w A0 n0 c0 o.l AR nR cR o.rs AN nN cN o.ns
theorem RndE.below {w w' : World} {ad : Addr} {i D : Nat} {dr : Int} {o : OpnI} (h : RndE w ad i D dr o) (hb : Below w.heap.size w w') : RndE w' ad i D dr o := by
  obtain ⟨A0, n0, c0, AR, nR, cR, AN, nN, cN, h1, h2, h3, h4, h5, h6⟩ := h
  exact ⟨A0, n0, c0, AR, nR, cR, AN, nN, cN, (hb.cell (block_lt_of_cell h1)).trans h1, (hb.cell (block_lt_of_cell h2)).trans h2, (hb.cell (block_lt_of_cell h3)).trans h3, (hb.cell (block_lt_of_cell h4)).trans h4, (hb.cell (block_lt_of_cell h5)).trans h5, h6.below hb⟩
theorem ad_off (ad : Addr) (m j : Nat) (hj : 0 < j) : ad.add (m + j) = ⟨(ad.add m).block, (ad.add m).off + j, none⟩ := by
  rw [← add_of_add]
  simp only [Addr.add]
  rw [if_neg (by omega)]
theorem RndE.cells {w : World} {ad : Addr} {i D : Nat} {dr : Int} {o : OpnI} (h : RndE w ad i D dr o) : ∃ A0 n0 c0 AR nR cR AN nN cN, w.cell? (ad.add (i * 5)) = some (.pointer (some ⟨D, 0, none⟩)) ∧ w.cell? ⟨(ad.add (i * 5)).block, (ad.add (i * 5)).off + 1, none⟩ = some (vi dr) ∧ w.cell? ⟨(ad.add (i * 5)).block, (ad.add (i * 5)).off + 2, none⟩ = some (.slice A0 n0 c0) ∧ w.cell? ⟨(ad.add (i * 5)).block, (ad.add (i * 5)).off + 3, none⟩ = some (.slice AR nR cR) ∧ w.cell? ⟨(ad.add (i * 5)).block, (ad.add (i * 5)).off + 4, none⟩ = some (.slice AN nN cN) ∧ OpnAt w A0 n0 c0 o.l AR nR cR o.rs AN nN cN o.ns := by
  obtain ⟨A0, n0, c0, AR, nR, cR, AN, nN, cN, h1, h2, h3, h4, h5, h6⟩ := h
  exact ⟨A0, n0, c0, AR, nR, cR, AN, nN, cN, h1, by rw [← ad_off _ _ _ (by omega)]; exact h2, by rw [← ad_off _ _ _ (by omega)]; exact h3, by rw [← ad_off _ _ _ (by omega)]; exact h4, by rw [← ad_off _ _ _ (by omega)]; exact h5, h6⟩
section
variable {p : Nat} [NeZero p] {s : Fin p} {e : Nat} {opens : List OpnI} {dr : Nat → Int} {last : List Int} {R : Nat} {place : Int}
theorem goesO_true (h : ∀ u, u < R → isO p s e opens dr u place = wantO p s e opens last R u place) : goesO p s e opens dr last R place = true := by
  unfold goesO
  rw [List.all_eq_true]
  intro i hi
  exact decide_eq_true (h i (List.mem_range.1 hi))
theorem goesO_false {u : Nat} (hu : u < R) (h : isO p s e opens dr u place ≠ wantO p s e opens last R u place) : goesO p s e opens dr last R place = false := by
  unfold goesO
  rw [List.all_eq_false]
  exact ⟨u, List.mem_range.2 hu, by simpa using h⟩
end
theorem nz_of {n : Nat} (h : 1 ≤ n) : ¬ n = 0 ∧ ¬ (n : Int) = 0 ∧ ((n : Int) == 0) = false := ⟨by omega, by omega, by rw [beq_eq_false_iff_ne]; omega⟩
theorem lt_two {d : Nat} (h : d < 2) : wrap64 (d : Int) = (d : Int) ∧ IntKind.i64.wrap (d : Int) = (d : Int) ∧ (0 : Int) ≤ (d : Int) ∧ (d : Int) < 2 := ⟨IntWalk.wrap64_in _ (by omega), IntWalk.i64_in _ (by omega), by omega, by omega⟩
theorem step_lt {t R : Nat} (h : t + 1 < R) : (0 : Int) ≤ (t : Int) + 1 ∧ (t : Int) + 1 < (R : Int) ∧ ((t : Int) + 1).toNat = t + 1 := ⟨by omega, by omega, by omega⟩
set_option maxRecDepth 100000 in
set_option maxHeartbeats 4000000 in
theorem follows_any (p S b : Nat) [NeZero p] (s : Fin p) (e : Nat) (he : e ≤ 16) (Ds : Nat → Nat) (opens : List OpnI) (dr : Nat → Int) (last : List Int) (R : Nat) (hRe : R ≤ e) (A : Option Addr) (cA : Nat)
    (AL : Option Addr) (nL cL : Nat) (hlL : last.length = nL) (hLi : ∀ x ∈ last, I64 x) (hLb : nL * 8 ≤ 140737488351232) (place : Int) (hp0 : 0 ≤ place) (hpI : place ≤ 65536) (hok : ∀ i, i < R → OkO (opnO opens i) (place % (nI e (i + 1) : Int))) (hdr : ∀ i, I64 (dr i))
    (w : World) (hD : ∀ i, i ≤ R → Dom w S (Ds i) b p (nI e i) (sqI s i)) (hT : ∀ i, i < R → ∃ ad, A = some ad ∧ RndE w ad i (Ds i) (dr i) (opnO opens i)) (sL : SL w AL last) :
    Calls Tryz.prog 38 #[.slice A R cA, .pointer (some ⟨Ds R, 0, none⟩), .slice AL nL cL, vi place] w fun e' w' => SaysW (.bool (goesO p s e opens dr last R place)) w e' w' := by
  have HD := Lib.hid hD
  have HT := Lib.hid hT
  have HSL := Lib.hid sL
  have HL := Lib.hid (And.intro hlL (And.intro hLi hLb))
  have HOK := Lib.hid hok
  have HDR := Lib.hid hdr
  have HS := Lib.hid (hD R (Nat.le_refl _)).fld.le
  have HP2 := Lib.hid (hD R (Nat.le_refl _)).fld.max
  clear hD hT sL hlL hLi hLb hok hdr
  go_enter Tryz.func38, Tryz.ntmps38
  go_wp2
  go_loopw [18] (fun i wr => ∃ t : Nat, t ≤ R ∧ i = vi t ∧ Below w.heap.size w wr ∧ ∀ u, u < t → isO p s e opens dr u place = wantO p s e opens last R u place) (fun i _ => R - (intOf i).toNat)
  case atStart => exact ⟨0, Nat.zero_le _, rfl, Below.refl _ _, fun u hu => absurd hu (Nat.not_lt_zero _)⟩
  case round =>
    obtain ⟨t, ht, rfl, hb, hall⟩ := hrel
    have HALL := Lib.hid hall
    have HB := Lib.hid hb
    clear hall hb
    by_cases hlt : t < R
    · obtain ⟨ad, rfl, hE⟩ := HT.out t hlt
      obtain ⟨A0, n0, c0, AR, nR, cR, AN, nN, cN, q0, q1, q2, q3, q4, hop⟩ := (hE.below HB.out).cells
      have hok := HOK.out t hlt
      have i1 : (0 : Int) ≤ (t : Int) := by omega
      have i2 : (t : Int) < (R : Int) := by omega
      have hwt : IntKind.i64.wrap ((t : Int) + 1) = (t : Int) + 1 := IntWalk.i64_in _ (by omega)
      obtain ⟨n, hn⟩ : ∃ n, n = nI e t := ⟨_, rfl⟩
      obtain ⟨h, hh⟩ : ∃ h, h = nI e (t + 1) := ⟨_, rfl⟩
      have hn2 : n = 2 * h := by rw [hn, hh]; exact nI_step (by omega)
      have hh1 : 1 ≤ h := by rw [hh]; exact nI_pos _ _
      have hnm : n ≤ 65536 := by rw [hn]; exact nI_le he t
      have hq : wrap64 ((n : Int) / 2) = (h : Int) := by rw [IntWalk.wrap64_in _ (by omega)]; omega
      have hz : ((h : Int) == 0) = false := by simp; omega
      have hz1 : ¬ (h : Int) = 0 := by omega
      have hz2 : ¬ h = 0 := by omega
      rw [← hh] at hok
      obtain ⟨m, hm⟩ := Int.eq_ofNat_of_zero_le (Int.emod_nonneg place (show (h : Int) ≠ 0 by omega))
      have hmh : m < h := by have := Int.emod_lt_of_pos place (show (0 : Int) < (h : Int) by omega); omega
      have htm : place.tmod (h : Int) = (m : Int) := by rw [Int.tmod_eq_emod_of_nonneg hp0, hm]
      rw [hm] at hok
      obtain ⟨hjR, hrow, hlen2⟩ := hok.at_
      obtain ⟨w3, hw3⟩ : ∃ w3, w3 = wr.alloc (.cells #[.pointer (some ⟨Ds t, 0, none⟩), vi (dr t), .slice A0 n0 c0, .slice AR nR cR, .slice AN nN cN] 75) := ⟨_, rfl⟩
      have hb3 : Below wr.heap.size wr w3 := below_of_eq hw3
      have HB3 := Lib.hid (HB.out.trans (hb3.mono HB.out.size))
      have HG3 := Lib.hid (Blk.of_eq hw3)
      have HW3 := Lib.hid hw3
      have hsz := fun W (hb : Below w.heap.size w W) => size_any (Ds t) n W (by rw [hn]; exact ((HD.out t (by omega)).below hb HS.out).c1)
      have HSZ := Lib.hid hsz
      have HRW := Lib.hid (roundrow_any (Ds t) (dr t) A0 n0 c0 (opnO opens t).l hop.l0 (by have := hop.l0; have := hok.max; omega) hok.asc AR nR cR (opnO opens t).rs hop.lR (.slice AN nN cN) (m : Int) hjR w3 (hop.s0.below hb3) (hop.tR.below hb3))
      obtain ⟨x, y, hxy⟩ := two_of hlen2
      rw [hxy] at HRW
      have HOP := Lib.hid hop
      have HN := Lib.hid (And.intro hn (And.intro hh (And.intro hn2 (And.intro hh1 hnm))))
      have HM := Lib.hid (And.intro hm hmh)
      have HROW : Hid (rowO (opnO opens t) (m : Int) = [x, y]) := Lib.hid (by rw [hrow, hxy])
      clear hw3 hb3 hsz hop hE hn hh hn2 hh1 hnm hm hmh hrow hxy hlen2 hok
      go_upto_region 4 with (fail)
      rw [← HW3.out]
      clear q0 q1 q2 q3 q4
      have g0 := (HG3.out.cell 0).trans (show _ = some (.pointer (some ⟨Ds t, 0, none⟩)) from rfl)
      have g1 := (HG3.out.cell 1).trans (show _ = some (vi (dr t)) from rfl)
      have g2 := (HG3.out.cell 2).trans (show _ = some (.slice A0 n0 c0) from rfl)
      have g3 := (HG3.out.cell 3).trans (show _ = some (.slice AR nR cR) from rfl)
      have g4 := (HG3.out.cell 4).trans (show _ = some (.slice AN nN cN) from rfl)
      go_wp2_with fail
      refine (HSZ.out _ HB3.out).mono ?_
      rintro _ _ ⟨rfl, rfl⟩
      go_wp2_with fail
      refine HRW.out.mono ?_
      rintro _ w4 ⟨A1, n1, c1, rfl, hl1, hn1, hs1, hi1, hb4⟩
      have e2 : n1 = 2 := by rw [← hl1]; rfl
      subst e2
      obtain ⟨ad1, rfl, _, hc0⟩ := hs1.at_ (k := 0) (by simp)
      obtain ⟨ad1', hade, _, hc1⟩ := hs1.at_ (k := 1) (by simp)
      injection hade with hade
      subst hade
      simp only [List.getElem_cons_zero, List.getElem_cons_succ] at hc0 hc1
      have hc0' : w4.cell? ad1 = some (vi x) := by rw [← hc0]; simp [Addr.add]
      have hc1' : w4.cell? ⟨ad1.block, ad1.off + 1, none⟩ = some (vi y) := by rw [← hc1]; simp [Addr.add]
      have hx := hi1 x (by simp)
      have hy := hi1 y (by simp)
      have HB4 := Lib.hid (HB3.out.trans (hb4.mono HB3.out.size))
      have hG4 := Blk.below HG3.out hb4 HG3.out.lt
      have HG4 := Lib.hid hG4
      have HONE : Hid (∀ q, Calls Tryz.prog 84 #[.pointer (some ⟨Ds t, 0, none⟩), vi (m : Int), vi x, vi y, vi (dr t)] (w4.drewN q) fun e' w' => e' = .returned (vi (fv (isO p s e opens dr t place))) ∧ ∃ k, w' = w4.drewN k) := Lib.hid fun q => by
        have hd := (HD.out t (by omega)).below (below_drewN HB4.out q) HS.out
        have h1 := one_any p S (Ds t) b (nI e t) (sqI s t) m (by have := HM.out; have := HN.out; omega) x y (dr t) hx hy (HDR.out t) (w4.drewN q) hd
        have ev : isO p s e opens dr t place = foldE (el p x) (el p y) (el p (dr t)) (sqI s t * pw (rootI p ((nI e t : Nat) : Int)) m) := by
          unfold isO
          simp only
          rw [← HN.out.2.1, HM.out.1, HROW.out]
          rfl
        rw [ev]
        exact h1.mono fun e' w' h => ⟨h.1, by obtain ⟨k, rfl⟩ := h.2; exact ⟨_, World.drewN_drewN _ _ _⟩⟩
      clear hb4 hs1 hi1 hl1 hn1 hx hy hG4
      have g0 := (HG4.out.cell 0).trans (show _ = some (.pointer (some ⟨Ds t, 0, none⟩)) from rfl)
      have g1 := (HG4.out.cell 1).trans (show _ = some (vi (dr t)) from rfl)
      go_wp2
      go_quiet ((go_at_call 84; exact HONE.out _))
      obtain ⟨w5, hw5⟩ : ∃ w5, w5 = w4.drewN nq := ⟨_, rfl⟩
      have HB5 := Lib.hid (show Below w.heap.size w w5 by rw [hw5]; exact below_drewN HB4.out _)
      have HG5 := Lib.hid (show Blk w5 wr.heap.size 75 #[.pointer (some ⟨Ds t, 0, none⟩), vi (dr t), .slice A0 n0 c0, .slice AR nR cR, .slice AN nN cN] by rw [hw5]; exact HG4.out)
      rw [← hw5]
      clear hw5 hc0 hc0' hc1 hc1' g0 g1 HONE
      by_cases hlast : t + 1 = R
      · have te : (((t : Int) + 1) == (R : Int)) = true := by rw [← hlast]; simp
        have hD5 := (HD.out R (Nat.le_refl _)).below HB5.out HS.out
        have HFI := Lib.hid (fun W (hb : Below w.heap.size w W) => dfield_any (Ds R) b W ((HD.out R (Nat.le_refl _)).below hb HS.out).c0)
        have HPT : Hid (∀ W, Below w.heap.size w W → Calls Tryz.prog 86 #[.pointer (some ⟨Ds R, 0, none⟩), vi (m : Int)] W fun e' w' => e' = .returned (vi (fv (sqI s R * pw (rootI p ((nI e R : Nat) : Int)) m))) ∧ ∃ k, w' = W.drewN k) := Lib.hid fun W hb => by
          have h1 := point_any p S (Ds R) b (nI e R) (sqI s R) (m : Int) (by constructor <;> (have := HM.out.2; have := HN.out; omega)) W ((HD.out R (Nat.le_refl _)).below hb HS.out)
          rw [Int.emod_eq_of_lt (by omega) (by have := HM.out.2; have h2 := HN.out.2.1; rw [hlast] at h2; omega), Int.toNat_natCast] at h1
          exact h1
        obtain ⟨u2, hu2⟩ : ∃ u2, u2 = ev (els p last) (sqI s R * pw (rootI p ((nI e R : Nat) : Int)) m) := ⟨_, rfl⟩
        have HEV : Hid (∀ W, Below w.heap.size w W → Calls Tryz.prog 85 #[.pointer (some ⟨b, 0, none⟩), .slice AL nL cL, vi (fv (sqI s R * pw (rootI p ((nI e R : Nat) : Int)) m))] W fun e' w' => e' = .returned (vi (fv u2)) ∧ Below W.heap.size W w') := Lib.hid fun W hb => by
          have h1 := eval_any p S b AL cL last HL.out.2.1 (by have := HL.out; omega) (fv (sqI s R * pw (rootI p ((nI e R : Nat) : Int)) m)) (i64_fv _ HP2.out) W ((HD.out R (Nat.le_refl _)).below hb HS.out).fld (HSL.out.below hb)
          rw [HL.out.1, el_fv] at h1
          rw [hu2]
          exact h1
        have hwv : wantO p s e opens last R t place = u2 := by
          unfold wantO
          simp only
          rw [if_pos hlast, ← HN.out.2.1, HM.out.1, hu2]
          rfl
        have HGT : Hid (isO p s e opens dr t place = u2 → goesO p s e opens dr last R place = true) := Lib.hid fun h => goesO_true fun u hu => by
          by_cases hut : u < t
          · exact HALL.out u hut
          · obtain rfl : u = t := by omega
            rw [hwv]; exact h
        have HGF : Hid (isO p s e opens dr t place ≠ u2 → goesO p s e opens dr last R place = false) := Lib.hid fun h => goesO_false hlt (by rw [hwv]; exact h)
        clear hu2 hwv hD5
        generalize isO p s e opens dr t place = vv at HGT HGF ⊢
        by_cases hv : vv = u2
        · have tv : (fv vv == fv u2) = true := by rw [hv]; simp
          have HG := Lib.hid (HGT.out hv)
          clear hv
          go_wp2_with fail
          refine (HFI.out _ HB5.out).mono ?_
          rintro _ _ ⟨rfl, rfl⟩
          go_wp2_with fail
          refine (HPT.out _ HB5.out).mono ?_
          rintro _ _ ⟨rfl, kp, rfl⟩
          go_wp2_with fail
          refine (HEV.out _ (below_drewN HB5.out _)).mono ?_
          rintro _ w6 ⟨rfl, hb6⟩
          have HB6 := Lib.hid ((below_drewN HB5.out kp).trans (hb6.mono (below_drewN HB5.out kp).size))
          go_wp2
          go_ret
          exact ⟨ret_bool HG.out.symm, HB6.out⟩
        · have tv : (fv vv == fv u2) = false := by rw [beq_eq_false_iff_ne]; exact fun h => hv (fv_inj h)
          have HG := Lib.hid (HGF.out hv)
          clear hv
          go_wp2_with fail
          refine (HFI.out _ HB5.out).mono ?_
          rintro _ _ ⟨rfl, rfl⟩
          go_wp2_with fail
          refine (HPT.out _ HB5.out).mono ?_
          rintro _ _ ⟨rfl, kp, rfl⟩
          go_wp2_with fail
          refine (HEV.out _ (below_drewN HB5.out _)).mono ?_
          rintro _ w6 ⟨rfl, hb6⟩
          have HB6 := Lib.hid ((below_drewN HB5.out kp).trans (hb6.mono (below_drewN HB5.out kp).size))
          go_wp2
          go_ret
          exact ⟨ret_bool HG.out.symm, HB6.out⟩
      · have te : (((t : Int) + 1) == (R : Int)) = false := by rw [beq_eq_false_iff_ne]; omega
        have hlt1 : t + 1 < R := by omega
        obtain ⟨ad', hade, hE'⟩ := HT.out (t + 1) hlt1
        injection hade with hade
        subst hade
        obtain ⟨B0, m0, d0, BR, mR, dR, BN, mN, dN, q0, q1, q2, q3, q4, hop'⟩ := (hE'.below HB5.out).cells
        have hok := HOK.out (t + 1) hlt1
        obtain ⟨h2, hh2⟩ : ∃ h2, h2 = nI e (t + 1 + 1) := ⟨_, rfl⟩
        have hhn : h = 2 * h2 := by rw [HN.out.2.1, hh2]; exact nI_step (by omega)
        have hh21 : 1 ≤ h2 := by rw [hh2]; exact nI_pos _ _
        rw [← hh2] at hok
        obtain ⟨m2, hm2⟩ : ∃ m2, m2 = m % h2 := ⟨_, rfl⟩
        obtain ⟨d2, hd2⟩ : ∃ d2, d2 = m / h2 := ⟨_, rfl⟩
        have hmm : place % (h2 : Int) = (m2 : Int) := by
          rw [hm2, Int.natCast_emod, ← HM.out.1, hhn, Int.emod_emod_of_dvd]
          exact ⟨2, by rw [Int.natCast_mul]; omega⟩
        rw [hmm] at hok
        obtain ⟨hjR, hrow, hlen2⟩ := hok.at_
        obtain ⟨u0, u1, hu⟩ := two_of hlen2
        have hd22 : d2 < 2 := by rw [hd2]; exact Nat.div_lt_of_lt_mul (by have := HM.out.2; omega)
        obtain ⟨y2, hy2⟩ : ∃ y2, y2 = [u0, u1].getD d2 0 := ⟨_, rfl⟩
        have hwv : wantO p s e opens last R t place = el p y2 := by
          unfold wantO
          simp only
          rw [if_neg hlast, ← HN.out.2.1, HM.out.1, ← hh2]
          rw [show (m : Int) % (h2 : Int) = (m2 : Int) by rw [hm2, Int.natCast_emod], show ((m : Int) / (h2 : Int)).toNat = d2 by rw [hd2, ← Int.natCast_ediv, Int.toNat_natCast], hrow, hu, hy2]
        have hm2l : m2 < h2 := by rw [hm2]; exact Nat.mod_lt _ (by omega)
        have HD2 := Lib.hid (And.intro hh2 (And.intro hhn (And.intro hh21 (And.intro hm2l hd22))))
        have HRW2 : Hid (∀ W, Below w5.heap.size w5 W → Calls Tryz.prog 83 #[.agg #[.pointer (some ⟨Ds (t + 1), 0, none⟩), vi (dr (t + 1)), .slice B0 m0 d0, .slice BR mR dR, .slice BN mN dN], vi (m2 : Int)] W (RowIs [u0, u1] W)) := Lib.hid fun W hb => by
          have h1 := roundrow_any (Ds (t + 1)) (dr (t + 1)) B0 m0 d0 (opnO opens (t + 1)).l hop'.l0 (by have := hop'.l0; have := hok.max; omega) hok.asc BR mR dR (opnO opens (t + 1)).rs hop'.lR (.slice BN mN dN) (m2 : Int) hjR W (hop'.s0.below hb) (hop'.tR.below hb)
          rw [hu] at h1
          exact h1
        have HSZ2 := Lib.hid (fun W (hb : Below w.heap.size w W) => size_any (Ds (t + 1)) h W (by rw [HN.out.2.1]; exact ((HD.out (t + 1) (by omega)).below hb HS.out).c1))
        have hq2 : wrap64 ((h : Int) / 2) = (h2 : Int) := by rw [IntWalk.wrap64_in _ (by have := HN.out; omega)]; omega
        have htm2 : (m : Int).tmod (h2 : Int) = (m2 : Int) := by rw [Int.tmod_eq_emod_of_nonneg (Int.natCast_nonneg m), hm2, Int.natCast_emod]
        have htd2 : (m : Int).tdiv (h2 : Int) = (d2 : Int) := by rw [Int.tdiv_eq_ediv_of_nonneg (Int.natCast_nonneg m), hd2, Int.natCast_ediv]
        have htd3 : (m : Int) / (h2 : Int) = (d2 : Int) := by rw [hd2, Int.natCast_ediv]
        have HY2 := Lib.hid hy2
        have HWV := Lib.hid hwv
        clear hm2 hd2 hmm hrow hlen2 hu hwv hy2 hE' hop' hok hjR
        obtain ⟨hz5, hz4, hz3⟩ := nz_of hh21
        obtain ⟨htw, htw2, j1, j2⟩ := lt_two hd22
        obtain ⟨k1, k2, hto⟩ := step_lt hlt1
        clear hh2 hhn hh21 hm2l hd22
        go_wp2_with fail
        refine (HSZ2.out _ HB5.out).mono ?_
        rintro _ _ ⟨rfl, rfl⟩
        go_upto_region 10 with (fail)
        rw [hq2]
        have HGG : Hid (∀ W, Below w5.heap.size w5 W → W.cell? ⟨wr.heap.size, 0, none⟩ = some (.pointer (some ⟨Ds t, 0, none⟩)) ∧ W.cell? ⟨Ds t, 0, none⟩ = some (.pointer (some ⟨b, 0, none⟩)) ∧ W.cell? ⟨b, 0, none⟩ = some (vi p)) := Lib.hid fun W hb => by
          have hd := (HD.out t (by omega)).below (HB5.out.trans (hb.mono HB5.out.size)) HS.out
          exact ⟨((Blk.below HG5.out hb HG5.out.lt).cell 0).trans rfl, hd.c0, hd.fld.c0⟩
        have HD22 := Lib.hid (show d2 < [u0, u1].length from HD2.out.2.2.2.2)
        have HYV : Hid ([u0, u1][d2]'HD22.out = y2) := Lib.hid (by rw [HY2.out, List.getD_eq_getElem?_getD, List.getElem?_eq_getElem HD22.out, Option.getD_some])
        go_region_law (first
          | (go_simp; go_at_call 83; refine (HRW2.out _ (by first | exact below_drewN (Below.refl _ _) 1 | exact Below.refl _ _)).mono ?_; rintro _ w9 ⟨A9, n9, c9, rfl, hl9, hn9, hs9, hi9, hb9'⟩; have hb9 : Below w5.heap.size w5 w9 := ⟨hb9'.os, hb9'.tape, hb9'.output, hb9'.size, hb9'.block⟩; obtain rfl : n9 = 2 := hl9.symm; obtain ⟨ad9, rfl, _, hcy⟩ := hs9.at_ HD22.out; rw [HYV.out] at hcy; have hi9y : I64 y2 := (by rw [← HYV.out]; exact hi9 _ (List.getElem_mem HD22.out))))
        all_goals
          have HB9 := Lib.hid (HB5.out.trans (hb9.mono HB5.out.size))
          obtain ⟨g0, z0, z1⟩ := HGG.out w9 hb9
          have HOF := Lib.hid (of_el p HP2.out b y2 hi9y w9 z1)
          clear hb9 hb9' hl9 hn9 hs9 hi9 hcy hi9y z1 q0 q1 q2 q3 q4
          generalize hvv : isO p s e opens dr t place = vv
          have HVV := Lib.hid hvv
          clear hvv
          by_cases hv : vv = el p y2
          · have tv : (fv vv != fv (el p y2)) = false := by rw [hv]; simp
            have HALL2 : Hid (∀ u, u < t + 1 → isO p s e opens dr u place = wantO p s e opens last R u place) := Lib.hid fun u hu => by
              by_cases hut : u < t
              · exact HALL.out u hut
              · obtain rfl : u = t := by omega
                rw [HVV.out, HWV.out]; exact hv
            clear hv
            go_wp2_with fail
            refine HOF.out.mono ?_
            rintro _ _ ⟨rfl, rfl⟩
            go_wp2
            go_roundw
            case rel => exact ⟨t + 1, by omega, by go_num, HB9.out, HALL2.out⟩
            case measure => simp [intOf]; omega
          · have tv : (fv vv != fv (el p y2)) = true := by rw [bne_iff_ne]; exact fun h => hv (fv_inj h)
            have HG : Hid (goesO p s e opens dr last R place = false) := Lib.hid (goesO_false hlt (by rw [HVV.out, HWV.out]; exact hv))
            clear hv
            go_wp2_with fail
            refine HOF.out.mono ?_
            rintro _ _ ⟨rfl, rfl⟩
            go_wp2
            go_ret
            exact ⟨ret_bool HG.out.symm, HB9.out⟩
    · have et : t = R := by omega
      have HG : Hid (goesO p s e opens dr last R place = true) := Lib.hid (goesO_true (fun u hu => HALL.out u (by omega)))
      clear ht
      go_wp2
      go_ret
      exact ⟨ret_bool HG.out.symm, HB.out⟩
end Go.Proofs.YtflkiddmakeabaaGreatDoor
