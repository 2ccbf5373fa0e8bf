/- A bundle of texts: So, Pl3, Ss, LawM7, Rowm, Sz, Oa, Oo. -/
import Derived.Test.YtijhajkakmohnaaDoorB04
import Derived.Test.YtijhajkakmohnaaDoorB02
import Derived.Test.YtijhajkakmohnaaDoorB01
import Derived.Deep.RegionHeld3
import Derived.Test.YtijhajkakmohnaaDoorB03
import Derived.SizedLaws
import Derived.Deep.Matrix
import Derived.Lib.SmallJoins
import Derived.ChangeOld
import Derived.Below
import Derived.OpenShut
import Derived.Deep.Slices
import Derived.Deep.Fields
import Derived.ChangeSame
/- A script of acts that came in. -/
set_option linter.unusedVariables false
namespace Go.Proofs.YtijhajkakmohnaaDoor
open Go.RowKit Zp

/-- an act lies at place k of a row -/
def OpAt (w : World) (B : Nat) (ad : Addr) (k : Nat) (o : OpI) : Prop :=
  ∃ (A : Option Addr) (n c : Nat), w.cell? (ad.add (k * 3)) = some (vi o.kind) ∧ w.cell? (ad.add (k * 3 + 1)) = some (vi o.n) ∧ w.cell? (ad.add (k * 3 + 2)) = some (.slice A n c) ∧ o.l.length = n ∧ n * 8 ≤ 140737488351232 ∧ (∀ x ∈ o.l, I64 x) ∧ SLB w B A o.l ∧ I64 o.kind ∧ I64 o.n
/-- a script that came in -/
structure ArgO (w : World) (P : Option Addr) (ns cs : Nat) (os : List OpI) : Prop where
  len : os.length = ns
  cap : ns ≤ cs
  max : ns ≤ 3518437208883
  at_ : ∀ k (hk : k < os.length), ∃ ad, P = some ad ∧ ad.block < w.heap.size ∧ OpAt w w.heap.size ad k os[k]
theorem ArgO.nil (w : World) : ArgO w none 0 0 [] := ⟨rfl, Nat.le_refl _, by omega, fun k hk => by simp at hk⟩
theorem OpAt.below {w w' : World} {B : Nat} {ad : Addr} {k : Nat} {o : OpI} (h : OpAt w B ad k o) (had : ad.block < B) (hb : Below B w w') : OpAt w' B ad k o := by
  obtain ⟨A, n, c, h1, h2, h3, h4, h5, h6, h7, h8, h9⟩ := h
  exact ⟨A, n, c, (hb.cell (p := ad.add (k * 3)) (by rw [block_of_add]; exact had)).trans h1, (hb.cell (p := ad.add (k * 3 + 1)) (by rw [block_of_add]; exact had)).trans h2, (hb.cell (p := ad.add (k * 3 + 2)) (by rw [block_of_add]; exact had)).trans h3, h4, h5, h6, h7.below hb, h8, h9⟩
/-- the cells of an act, as a walk names them -/
theorem OpAt.cells {w : World} {B : Nat} {ad : Addr} {k : Nat} {o : OpI} (h : OpAt w B ad k o) : ∃ (A : Option Addr) (n c : Nat), w.cell? (ad.add (k * 3)) = some (vi o.kind) ∧ w.cell? ⟨(ad.add (k * 3)).block, (ad.add (k * 3)).off + 1, none⟩ = some (vi o.n) ∧ w.cell? ⟨(ad.add (k * 3)).block, (ad.add (k * 3)).off + 2, none⟩ = some (.slice A n c) ∧ o.l.length = n ∧ n * 8 ≤ 140737488351232 ∧ (∀ x ∈ o.l, I64 x) ∧ SLB w B A o.l ∧ I64 o.kind ∧ I64 o.n := by
  obtain ⟨A, n, c, h1, h2, h3, h⟩ := h
  have e1 : ad.add (k * 3 + 1) = ⟨(ad.add (k * 3)).block, (ad.add (k * 3)).off + 1, none⟩ := by rw [← add_of_add]; simp [Addr.add]
  have e2 : ad.add (k * 3 + 2) = ⟨(ad.add (k * 3)).block, (ad.add (k * 3)).off + 2, none⟩ := by rw [← add_of_add]; simp [Addr.add]
  exact ⟨A, n, c, h1, by rw [← e1]; exact h2, by rw [← e2]; exact h3, h⟩
theorem Grow2.cell {w w' : World} {c m : Nat} {q : Addr} {z : Value} (h : Grow2 w w' c m) (hz : w.cell? q = some z) (h1 : q.block ≠ c) (h2 : q.block ≠ m) : w'.cell? q = some z :=
  (World.cell?_of_block (h.block _ (block_lt_of_cell hz) h1 h2)).trans hz
/-- what lies on top -/
theorem Stk.top {p : Int} {w : World} {B s base : Nat} {u v : Value} {cl ml : List Nat} (h : Stk p w B s base u v cl ml) :
    ∃ (k gu cu gv cv c m : Nat) (D : List Int), cl.length = k + 1 ∧ u = .slice (some ⟨gu, 0, none⟩) (k + 1) cu ∧ k + 1 ≤ cu ∧ v = .slice (some ⟨gv, 0, none⟩) (k + 1) cv ∧ k + 1 ≤ cv ∧ w.cell? ⟨gu, k, none⟩ = some (.pointer (some ⟨c, 0, none⟩)) ∧ w.cell? ⟨gv, k, none⟩ = some (.pointer (some ⟨m, 0, none⟩)) ∧ B ≤ c ∧ B ≤ m ∧ Chn w c s D ∧ RCh w m p D ∧
      gu ≠ c ∧ gu ≠ m ∧ gv ≠ c ∧ gv ≠ m ∧ (∀ w', Grow2 w w' c m → (∃ D', Chn w' c s D' ∧ RCh w' m p D') → Stk p w' B s base u v cl ml) := by
  obtain ⟨k, hk⟩ : ∃ k, cl.length = k + 1 := ⟨cl.length - 1, by have := h.pos; omega⟩
  have hkc : k < cl.length := by omega
  have hkm : k < ml.length := by rw [h.len]; exact hkc
  have ol := h.ol
  have om := h.om
  have hst := fun w' (g : Grow2 w w' cl[k] ml[k]) hn => h.step hkc hkm g hn
  obtain ⟨b1, b2, D, hC, hR⟩ := h.at_ k hkc hkm
  obtain ⟨vc, hco⟩ := hC.obj
  obtain ⟨gr, capr, csr, hro, _⟩ := id hR
  obtain ⟨A, n, c, hu, _⟩ : ∃ A n c, u = .slice A n c ∧ True := by
    rcases ol.2 with ⟨e, _⟩ | ⟨g, cap, cur, e, _⟩ <;> exact ⟨_, _, _, e, trivial⟩
  obtain ⟨A', n', c', hv, _⟩ : ∃ A n c, v = .slice A n c ∧ True := by
    rcases om.2 with ⟨e, _⟩ | ⟨g, cap, cur, e, _⟩ <;> exact ⟨_, _, _, e, trivial⟩
  subst hu hv
  obtain ⟨e1, e2, gu, rfl, e3⟩ := ol.at_ hkc
  obtain ⟨f1, f2, gv, rfl, f3⟩ := om.at_ hkm
  obtain ⟨ca, hca⟩ := ol.blk (g := gu) rfl
  obtain ⟨cb, hcb⟩ := om.blk (g := gv) rfl
  refine ⟨k, gu, c, gv, c', cl[k], ml[k], D, hk, by rw [e1, hk], by omega, by rw [f1, h.len, hk], by rw [f1, h.len] at f2; omega, e3, f3, b1, b2, hC, hR, Blk.ne_ hca hco (by decide), Blk.ne_ hca hro (by decide), Blk.ne_ hcb hco (by decide), Blk.ne_ hcb hro (by decide), hst⟩
end Go.Proofs.YtijhajkakmohnaaDoor

/- law3.plain: a sponge, or none. -/
set_option linter.unusedVariables false
namespace Go.Proofs.YtijhajkakmohnaaDoor
open Go.RowKit Zp

set_option maxHeartbeats 2000000 in
theorem spnew_none (p S b : Nat) [NeZero p] (h23 : p < 23) (w : World) (F : Fld w S b p) :
    Calls Tryd.prog 13 #[.pointer (some ⟨b, 0, none⟩)] w fun e w' => e = .returned (.tuple #[.pointer none, .iface 64 (.int .i64 3)]) ∧ w = w' := by
  have hcb := F.c0
  have tq : ((p : Int) < 23) = True := by simp; omega
  go_enter Tryd.func13, Tryd.ntmps13
  go_wp2_with (go_at_call 26; refine (p_any p b _ (by exact hcb)).mono ?_; rintro _ _ ⟨rfl, rfl⟩)
  go_ret2
  exact ⟨rfl, rfl⟩
end Go.Proofs.YtijhajkakmohnaaDoor

/- same.Sponge: a sponge, as far as there is one, and that the program says so too. -/
set_option linter.unusedVariables false
namespace Go.Proofs.YtijhajkakmohnaaDoor
open Go.RowKit Zp

/-- is there a sponge? -/
def HasSponge (p : Int) : Prop := HasField p ∧ 23 ≤ p
def NoSponge (w : World) (e : Ending) (w' : World) : Prop := SaysW (.tuple #[.pointer none, .bool true]) w e w'
theorem ssponge_no (p : Int) (hp : I64 p) (h : ¬ HasSponge p) (w : World) (hT : Typed w) :
    Calls Tryd.prog 4 #[vi p] w fun e w' => NoSponge w e w' := by
  by_cases hf : HasField p
  · obtain ⟨n, rfl⟩ := Int.eq_ofNat_of_zero_le (a := p) (by have := hf.1; omega)
    have hpn : IsPrime n := by simpa using hf.2.2
    haveI := hpn.ne
    have h23 : n < 23 := by
      rcases Nat.lt_or_ge n 23 with h1 | h1
      · exact h1
      · exact absurd ⟨hf, by omega⟩ h
    have HF := Lib.hid (sfield_yes n (by have := hf.1; omega) (by have := hf.2.1; omega) hpn w hT)
    have HS := Lib.hid (fun S b W F => spnew_none n S b h23 W F)
    have he := fun W hT => error_any 3 3 W hT
    rw [errV_ne (by decide), show ((3 : Int) == 3) = true from rfl] at he
    have HE := Lib.hid he
    have t1 : ¬ (23 : Int) ≤ (n : Int) := by omega
    clear he hf h hpn h23
    go_enter Tryd.func4, Tryd.ntmps4
    go_wp2_with fail
    refine (HF.out).mono ?_
    rintro e w1 ⟨b, rfl, F, hb1⟩
    go_wp2_with fail
    refine (HS.out _ _ _ F).mono ?_
    rintro e _ ⟨rfl, rfl⟩
    go_wp2_with fail
    refine (HE.out _ (hT.below hb1)).mono ?_
    rintro e w2 ⟨rfl, hb2⟩
    go_wp2
    go_ret2
    exact ⟨rfl, hb1.trans (hb2.mono hb1.size)⟩
  · have HF := Lib.hid (sfield_no p hp hf w hT)
    clear hf h
    go_enter Tryd.func4, Tryd.ntmps4
    go_wp2_with fail
    refine (HF.out).mono ?_
    rintro e w1 ⟨rfl, hb1⟩
    go_wp2
    go_ret2
    exact ⟨rfl, hb1⟩
def YesSponge (q : Nat) [NeZero q] (w : World) (e : Ending) (w' : World) : Prop :=
  ∃ (s b k z : Nat) (oo : Nat → Nat → Fin q), e = .returned (.tuple #[.pointer (some ⟨s, 0, none⟩), .bool true]) ∧ Fld w' w'.heap.size b q ∧ Spg w' s b k z oo ∧ w.heap.size ≤ s ∧ s < w'.heap.size ∧ Below w.heap.size w w'
theorem ssponge_yes (q : Nat) [NeZero q] (h23 : 23 ≤ q) (hm : q ≤ 2147483647) (hpr : IsPrime q) (w : World) (hT : Typed w) :
    Calls Tryd.prog 4 #[vi q] w fun e w' => YesSponge q w e w' := by
  have HF := Lib.hid (sfield_yes q (by omega) hm hpr w hT)
  have HS := Lib.hid (fun S b W F => spnew_any q S b h23 W F)
  have he := fun W hT => error_any 0 0 W hT
  rw [errV_zero, show ((0 : Int) == 0) = true from rfl] at he
  have HE := Lib.hid he
  have t1 : (23 : Int) ≤ (q : Int) := by omega
  clear he hpr h23
  go_enter Tryd.func4, Tryd.ntmps4
  go_wp2_with fail
  refine (HF.out).mono ?_
  rintro e w1 ⟨b, rfl, F, hb1⟩
  go_wp2_with fail
  refine (HS.out _ _ _ F).mono ?_
  rintro e w2 ⟨rfl, ⟨k, z, oo, G⟩, hb2⟩
  have hb12 := hb1.trans (hb2.mono hb1.size)
  have hsl := block_lt_of_cell G.c0
  go_wp2_with fail
  refine (HE.out _ (hT.below hb12)).mono ?_
  rintro e w3 ⟨rfl, hb3⟩
  go_wp2
  go_ret2
  exact ⟨_, b, k, z, oo, rfl, (F.below hb2 (Nat.le_refl _) |>.moreS hb2.size (Nat.le_refl _)).below hb3 (Nat.le_refl _) |>.moreS hb3.size (Nat.le_refl _), G.below hb3 hsl, hb1.size, Nat.lt_of_lt_of_le hsl hb3.size, hb12.trans (hb3.mono hb12.size)⟩
theorem hasSponge_nat {p : Int} (h : HasSponge p) : ∃ n : Nat, p = n ∧ 23 ≤ n ∧ n ≤ 2147483647 ∧ IsPrime n := by
  obtain ⟨n, rfl⟩ := Int.eq_ofNat_of_zero_le (a := p) (by have := h.2; omega)
  exact ⟨n, rfl, by have := h.2; omega, by have := h.1.2.1; omega, by simpa using h.1.2.2⟩
end Go.Proofs.YtijhajkakmohnaaDoor

/- The walk of the law ChainDraws. -/
set_option linter.unusedVariables false
namespace Go.Proofs.YtijhajkakmohnaaDoor
open Go.RowKit Zp

/-- what the great loop knows -/
def DrawsLoop (p : Nat) (ns B0 s B1 : Nat) (w4 : World) (u v t : Value) (wr : World) : Prop :=
  ∃ (i : Nat) (cl ml : List Nat), i ≤ ns ∧ t = vi i ∧ cl.length ≤ i + 1 ∧ Stk p wr B0 s B1 u v cl ml ∧ Below B0 w4 wr
set_option maxRecDepth 100000 in
set_option maxHeartbeats 4000000 in
theorem cdraws_walk (w : World) (p : Int) (hp : I64 p) (A : Option Addr) (n ca : Nat) (l : List Int) (hl : ArgS w A n ca l) (P : Option Addr) (ns cs : Nat) (os : List OpI) (ha : ArgO w P ns cs os) (hT : Typed w) :
    Calls Tryd.prog 3 #[vi p, .slice A n ca, .slice P ns cs] w fun e w' => SaysW (.bool true) w e w' := by
  have HA := Lib.hid ha
  have hmx := ha.max
  have HSPN := Lib.hid (fun h => ssponge_no p hp h w hT)
  have hr8 := hl.r8
  rw [hl.len] at hr8
  clear ha
  by_cases hF : HasSponge p
  · obtain ⟨q, rfl, h23, hqm, hpr⟩ := hasSponge_nat hF
    haveI := hpr.ne
    have HSY := Lib.hid (ssponge_yes q h23 hqm hpr w hT)
    have HL := Lib.hid hl
    clear hF HSPN hpr hl
    go_enter Tryd.func3, Tryd.ntmps3
    go_wp2
    go_loopw [7, 8] (fun v t wr => ∃ (k : Nat) (S : Int), k ≤ ns ∧ t = vi k ∧ v = vi S ∧ 0 ≤ S ∧ S ≤ 20000 ∧ (∀ j (h : j < os.length), j < k → os[j].n ≤ 20000) ∧ w = wr) (fun _ t _ => ns - (intOf t).toNat)
    case atStart => exact ⟨0, 0, Nat.zero_le _, rfl, rfl, by omega, by omega, fun j h hj => absurd hj (by omega), rfl⟩
    case round =>
      obtain ⟨k, S, hk, rfl, rfl, hS0, hS1, hall, rfl⟩ := hrel
      have HALL := Lib.hid hall
      clear hall
      by_cases hkn : k < ns
      · have hkl : k < os.length := by rw [HA.out.len]; exact hkn
        obtain ⟨ad, rfl, had, hop⟩ := HA.out.at_ k hkl
        obtain ⟨A2, n2, c2, q0, q1, q2, q3, q4, q5, q6, q7, q8⟩ := hop.cells
        have k1 : (0 : Int) ≤ (k : Int) := by omega
        have k2 : (k : Int) < (ns : Int) := by omega
        obtain ⟨N, hN⟩ : ∃ N, N = os[k].n := ⟨_, rfl⟩
        rw [← hN] at q1 q8
        have HN := Lib.hid hN
        have hall2 : N ≤ 20000 → ∀ j (h : j < os.length), j < k + 1 → os[j].n ≤ 20000 := fun h1 j h hj => by
          by_cases e : j = k
          · subst e; rw [← HN.out]; exact h1
          · exact HALL.out j h (by omega)
        have HA2 := Lib.hid hall2
        obtain ⟨q8a, q8b⟩ := q8
        clear hop q0 q2 q3 q5 q6 q7 hN hall2
        by_cases c1 : 20000 < N
        · have t1 : decide ((20000 : Int) < N) = true := by simp; omega
          go_wp2
          go_ret
          exact ⟨rfl, Below.refl _ _⟩
        · have t1 : decide ((20000 : Int) < N) = false := by simp; omega
          by_cases c2 : 0 < N
          · have t2 : decide ((0 : Int) < N) = true := by simp; omega
            by_cases c3 : 20000 < S + N
            · have t3 : decide ((20000 : Int) < S + N) = true := by simp; omega
              go_wp2
              go_ret
              exact ⟨rfl, Below.refl _ _⟩
            · have t3 : decide ((20000 : Int) < S + N) = false := by simp; omega
              go_wp2
              go_roundw
              case rel => exact ⟨k + 1, S + N, by omega, by go_num, rfl, by omega, by omega, HA2.out (by omega), by trivial⟩
              case measure => simp [intOf]; omega
          · have t2 : decide ((0 : Int) < N) = false := by simp; omega
            have t3 : decide ((20000 : Int) < S) = false := by simp; omega
            go_wp2
            go_roundw
            case rel => exact ⟨k + 1, S, by omega, by go_num, rfl, by omega, by omega, HA2.out (by omega), by trivial⟩
            case measure => simp [intOf]; omega
      · have ek : k = ns := by omega
        have t1 : ¬ (k : Int) < (ns : Int) := by omega
        have hNN : ∀ j (h : j < os.length), os[j].n ≤ 20000 := fun j h => HALL.out j h (by rw [ek, ← HA.out.len]; exact h)
        have HNN := Lib.hid hNN
        clear ek hNN HALL
        go_wp2_with fail
        refine (HSY.out).mono ?_
        rintro e w2 ⟨s, b, z, zz, oo, rfl, F2, G2, hs1, hs2, hb2⟩
        have hK : Pk q z := ⟨by omega, hqm, G2.k2, G2.klt (by omega), G2.least, G2.cop⟩
        have HK := Lib.hid hK
        have sl2 := HL.out.sl.below hb2
        have HN2 := Lib.hid (chnew_any q _ b s z zz oo A n ca l HL.out.len HL.out.i64 (by omega) w2 F2 G2 sl2)
        have HF2 := Lib.hid F2
        have HG2 := Lib.hid G2
        have HB2 := Lib.hid hb2
        have HSL2 := Lib.hid sl2
        obtain ⟨B0, hB0⟩ : ∃ B0, B0 = w2.heap.size := ⟨_, rfl⟩
        have HB0 := Lib.hid hB0
        clear hK sl2 F2 G2 hb2 hs1 hB0
        go_wp2_with fail
        refine (HN2.out).mono ?_
        rintro e w3 ⟨rfl, hC3, hb3⟩
        have HBE := Lib.hid (rbegin_any q z HK.out A n ca l HL.out.len HL.out.i64 (by omega) w3 (HSL2.out.below hb3))
        have HC3 := Lib.hid hC3
        have HB3 := Lib.hid hb3
        clear hC3 hb3
        go_wp2_with fail
        refine (HBE.out).mono ?_
        rintro e w4 ⟨rfl, hR4, hb4⟩
        have HC4 := Lib.hid (HC3.out.below hb4)
        have HR4 := Lib.hid hR4
        have HB24 := Lib.hid (HB3.out.trans (hb4.mono HB3.out.size))
        have h34 : w2.heap.size < w3.heap.size := HC3.out.lt
        have hba : Below w4.heap.size w4 ((w4.alloc (.cells #[ptr w2.heap.size] 29)).alloc (.cells #[ptr w3.heap.size] 31)) := ((Below.refl _ _).alloc (Nat.le_refl _) _).alloc (by simp) _
        have hol : OwnP ((w4.alloc (.cells #[ptr w2.heap.size] 29)).alloc (.cells #[ptr w3.heap.size] 31)) w4.heap.size 29 (.slice (some ⟨w4.heap.size, 0, none⟩) 1 1) [w2.heap.size] :=
          World.ownsRow.alloc (World.ownsRow_lit (e := 29) (size := 1) w4 #[ptr w2.heap.size] 1 (Nat.le_refl _) (by simp [maxLen]) (by simp)) _
        have hom : OwnP ((w4.alloc (.cells #[ptr w2.heap.size] 29)).alloc (.cells #[ptr w3.heap.size] 31)) w4.heap.size 31 (.slice (some ⟨w4.heap.size + 1, 0, none⟩) 1 1) [w3.heap.size] := by
          have h := World.ownsRow_lit (e := 31) (size := 1) (base := w4.heap.size) (w4.alloc (.cells #[ptr w2.heap.size] 29)) #[ptr w3.heap.size] 1 (by simp) (by simp [maxLen]) (by simp)
          rw [World.size_alloc] at h
          exact h
        have hst : Stk q ((w4.alloc (.cells #[ptr w2.heap.size] 29)).alloc (.cells #[ptr w3.heap.size] 31)) B0 s w4.heap.size (.slice (some ⟨w4.heap.size, 0, none⟩) 1 1) (.slice (some ⟨w4.heap.size + 1, 0, none⟩) 1 1) [w2.heap.size] [w3.heap.size] := by
          refine ⟨hol, hom, rfl, by simp, by simp, by simp, fun i h1 h2 => ?_⟩
          have e : i = 0 := by simp at h1; omega
          subst e
          exact ⟨by rw [HB0.out]; exact Nat.le_refl _, by rw [HB0.out]; exact Nat.le_of_lt h34, _, HC4.out.below hba, HR4.out.below hba⟩
        have hb04 : B0 ≤ w4.heap.size := by rw [HB0.out]; exact HB24.out.size
        have HB04 := Lib.hid hb04
        have HST := Lib.hid hst
        have HBI := Lib.hid (hba.mono hb04)
        have HBW4 := Lib.hid (HB2.out.trans (HB24.out.mono HB2.out.size))
        have hsB : s < B0 := by rw [HB0.out]; exact hs2
        have HF4 := Lib.hid (HF2.out.below HB24.out (Nat.le_refl _))
        have HG4 := Lib.hid (HG2.out.below HB24.out hs2)
        have HSB := Lib.hid (show w2.heap.size ≤ B0 by rw [HB0.out]; exact Nat.le_refl _)
        have HWB := Lib.hid (show w.heap.size ≤ B0 by rw [HB0.out]; exact HB2.out.size)
        clear hR4 hb4 hba hol hom hst
        go_wp2
        go_loopw [13, 14, 15, 16, 17, 18, 19, 20, 21, 22] (fun u v t _ _ _ _ _ _ _ wr => DrawsLoop q ns B0 s w4.heap.size w4 u v t wr) (fun _ _ t _ _ _ _ _ _ _ _ => ns - (intOf t).toNat)
        case atStart => exact ⟨0, _, _, Nat.zero_le _, rfl, by simp, HST.out, HBI.out⟩
        case round =>
          obtain ⟨i, cl, ml, hi, rfl, hcl, hst, hb⟩ := hrel
          by_cases hin : i < ns
          · have hil : i < os.length := by rw [HA.out.len]; exact hin
            have hbw : Below w.heap.size w wr := HBW4.out.trans (hb.mono HWB.out)
            obtain ⟨ad, rfl, had, hop⟩ := HA.out.at_ i hil
            have hop' := hop.below had hbw
            obtain ⟨A2, n2, c2, q0, q1, q2, q3, q4, q5, q6, q7, q8⟩ := hop'.cells
            have hN := HNN.out i hil
            obtain ⟨N, hNe⟩ : ∃ N, N = os[i].n := ⟨_, rfl⟩
            obtain ⟨K, hKe⟩ : ∃ K, K = os[i].kind := ⟨_, rfl⟩
            obtain ⟨L, hLe⟩ : ∃ L, L = os[i].l := ⟨_, rfl⟩
            rw [← hNe] at q1 q8 hN
            rw [← hKe] at q0 q7
            rw [← hLe] at q3 q5 q6
            have i1 : (0 : Int) ≤ (i : Int) := by omega
            have i2 : (i : Int) < (ns : Int) := by omega
            have hbo : Below wr.heap.size wr (wr.alloc (.cells #[vi K, vi N, .slice A2 n2 c2] 25)) := (Below.refl _ _).alloc (Nat.le_refl _) _
            have hO := Blk.new wr 25 #[vi K, vi N, .slice A2 n2 c2]
            have hsz4 := hb.size
            obtain ⟨w5, hw5⟩ : ∃ w5, w5 = wr.alloc (.cells #[vi K, vi N, .slice A2 n2 c2] 25) := ⟨_, rfl⟩
            obtain ⟨o, ho⟩ : ∃ o, o = wr.heap.size := ⟨_, rfl⟩
            rw [← hw5] at hbo hO
            rw [← ho] at hO
            have hst5 := hst.below hbo
            have HW5 := Lib.hid hw5
            have HOO := Lib.hid ho
            have HOP := Lib.hid (show SLB w5 B0 A2 L from Reads.more (q6.below (hbo.mono hbw.size)) HWB.out)
            have HB5 := Lib.hid (hb.trans (hbo.mono (Nat.le_trans hb04 hsz4)))
            have hsz5 := hbo.size
            have h5B : w4.heap.size ≤ w5.heap.size := Nat.le_trans hsz4 hsz5
            have H5B := Lib.hid h5B
            have HQ3 := Lib.hid q3
            have HQ5 := Lib.hid q5
            have hol := Blk.lt hO
            have o0 := (Blk.cell hO 0).trans (show _ = some (vi K) from rfl)
            have o1 := (Blk.cell hO 1).trans (show _ = some (vi N) from rfl)
            have o2 := (Blk.cell hO 2).trans (show _ = some (Value.slice A2 n2 c2) from rfl)
            have HOB := Lib.hid hO
            have HCL := Lib.hid hcl
            clear hNe hKe hLe hop hop' hw5 ho hbo hst hb hbw q3 q5 q6 hO hcl
            go_upto_region 24 with (fail)
            rw [← HW5.out, ← HOO.out]
            clear q0 q1 q2 HW5
            have HS5 := Lib.hid hst5
            obtain ⟨k, gu, cu, gv, cv, c, m, D, hkl, rfl, hku, rfl, hkv, z1, z2, z3, z4, hC, hR, y1, y2, y3, y4, hstep⟩ := hst5.top
            have HSTEP := Lib.hid hstep
            have HC5 := Lib.hid hC
            have HR5 := Lib.hid hR
            have HKL := Lib.hid hkl
            have kx0 : (0 : Int) ≤ (k : Int) := by omega
            have kx1 : (k : Int) < (k : Int) + 1 := by omega
            have kb : k ≤ 3518437208883 := by have := HCL.out; omega
            have kb' : (k : Int) ≤ 3518437208883 := by omega
            have kw : IntKind.i64.wrap (k : Int) = k := IntWalk.i64_in _ (by constructor <;> omega)
            have hmlen := hst5.len
            have HML := Lib.hid (show ml.length = k + 1 by rw [hmlen, hkl])
            clear hst5 hstep hC hR hmlen hkl
            by_cases hK5 : K = 5
            · subst hK5
              have hfk := chfork_any c s D w5 HC5.out
              have HFK := Lib.hid hfk
              clear hfk o1 o2
              go_wp2_with fail
              refine (HFK.out).mono ?_
              rintro e w6 ⟨d, rfl, hCd, hdn, hb6⟩
              have HDN6 := Lib.hid hdn
              have hR6 := HR5.out.below hb6
              obtain ⟨gd, capd, csd, r1, r2, r3, r4, r5, r6, r7⟩ := id hR6
              have rm1 : w6.cell? ⟨m, 1, none⟩ = some (.slice (some ⟨gd, 0, none⟩) 4 capd) := (Blk.cell r1 1).trans rfl
              have z26 := (hb6.cell (p := ⟨gv, k, none⟩) (block_lt_of_cell z2)).trans z2
              have hba6 : Below w6.heap.size w6 (w6.alloc (.cells #[] 3)) := (Below.refl _ _).alloc (Nat.le_refl _) _
              have hoe6 := own_empty w6 w6.heap.size (Nat.le_refl _)
              have sl6 := r3.below hba6
              have hmlt := Blk.lt r1
              have rm1a := (hba6.cell (p := ⟨m, 1, none⟩) hmlt).trans rm1
              have z26a := (hba6.cell (p := ⟨gv, k, none⟩) (block_lt_of_cell z26)).trans z26
              have HCD := Lib.hid hCd
              have HB6 := Lib.hid hb6
              have HR4 := Lib.hid r4
              have HR7 := Lib.hid r7
              have hsz6 := hb6.size
              have hlc : cl.length < 17592186044416 := by have := HCL.out; omega
              have hlm : ml.length < 17592186044416 := by have := HML.out; have := HKL.out; omega
              have HLC := Lib.hid hlc
              have HLM := Lib.hid hlm
              clear hCd hb6 hR6 r1 r2 r3 r4 r5 r6 r7 hlc hlm
              go_upto_region 40 with (first
                | (at_builtin; refine wpList_appA (w6.alloc (.cells #[] 3)) rfl _ _ rfl w6.heap.size _ [] (some ⟨gd, 0, none⟩) 4 capd D rfl rfl HR4.out hoe6 sl6 (by simp) (by simp) ?_; intro v7 w7 hg7; have hown7 := hg7.own; have hb7 := hg7.below hba6 hoe6 (Nat.le_refl _) (by simp); rw [List.nil_append] at hown7; clear hg7; have HST7 := Lib.hid ((HS5.out.below HB6.out).below hb7); have HC7 := Lib.hid (HCD.out.below hb7); obtain ⟨g7, cap7, hv7, hg71, hg72⟩ := hown7.block (by rw [HR4.out]; omega); rw [HR4.out] at hv7; subst hv7; have HB7 := Lib.hid hb7; have HOW7 := Lib.hid hown7; have hsz7 : w4.heap.size ≤ w7.heap.size := Nat.le_trans h5B (Nat.le_trans hsz6 hb7.size); clear hown7 hb7)
                | (at_builtin; refine wpList_appP 33 29 Tryd.underlying33 info_pc w7 d rfl _ _ rfl w4.heap.size _ cl rfl rfl HST7.out.ol HLC.out hsz7 ?_; intro u8 w8 hg8; have HG8 := Lib.hid hg8; have om8 := HST7.out.om.far1 (fun x hx => HST7.out.ol.blk hx) (by decide) hg8.grown; have hsz8 := hg8.grown.size; have om8b := om8.below (show Below w8.heap.size w8 (w8.alloc (.cells #[vi q, .slice (some ⟨g7, 0, none⟩) 4 cap7] 37)) from (Below.refl _ _).alloc (Nat.le_refl _) _); clear hg8 om8)
                | (at_builtin; refine wpList_appPG 34 31 Tryd.underlying34 info_pr _ w8.heap.size (w8.heap.size + 1) rfl _ _ rfl w4.heap.size _ ml rfl rfl (cell_b2P _ _ _ _) (World.ownsRow.alloc om8b _) HLM.out (by simp; omega) ?_; intro v10 w10 hg10))
              have HG10 := Lib.hid hg10
              have hgr8 := HG8.out.grown
              have hown8 : Own w8 w6.heap.size (.slice (some ⟨g7, 0, none⟩) 4 cap7) D := HOW7.out.keep fun x hx => by
                injection hx with hx
                subst hx
                refine hgr8.block _ hg72 (fun e => ?_)
                obtain ⟨ca, hca⟩ := HST7.out.ol.blk e.symm
                obtain ⟨cb, hcb⟩ := own_blkI HOW7.out
                exact Blk.ne_ hcb hca (by decide) rfl
              have hown10 := (hown8.alloc' (.cells #[vi q, .slice (some ⟨g7, 0, none⟩) 4 cap7] 37)).alloc' (.cells #[ptr w8.heap.size] 31)
              obtain ⟨cb, hcb⟩ := own_blkI hown10
              have hRO : RO ((w8.alloc (.cells #[vi q, .slice (some ⟨g7, 0, none⟩) 4 cap7] 37)).alloc (.cells #[ptr w8.heap.size] 31)) w8.heap.size q (.slice (some ⟨g7, 0, none⟩) 4 cap7) := (Blk.new w8 _ _).alloc _
              obtain ⟨A7, n7, c7, e7, x1, x2, x3, x4⟩ := hown10.shapeN
              injection e7 with e7a e7b e7c
              subst e7a e7b e7c
              have hRD : RCh ((w8.alloc (.cells #[vi q, .slice (some ⟨g7, 0, none⟩) 4 cap7] 37)).alloc (.cells #[ptr w8.heap.size] 31)) w8.heap.size q D := ⟨g7, cap7, cb, hRO, hcb, x4, HR4.out, x2, x3, HR7.out⟩
              have hb810 : Below w8.heap.size w8 ((w8.alloc (.cells #[vi q, .slice (some ⟨g7, 0, none⟩) 4 cap7] 37)).alloc (.cells #[ptr w8.heap.size] 31)) := ((Below.refl _ _).alloc (Nat.le_refl _) _).alloc (by simp) _
              have hlt5 := HS5.out.lt
              have hq04 := HB04.out
              have hq5 := H5B.out
              have hq6 := HB6.out.size
              have hq7 := HB7.out.size
              have hq8 := hgr8.size
              have hqd := HDN6.out
              have hpush := HST7.out.push HG8.out (d := d) (fun hm => by have := hlt5.1 d hm; omega) (show B0 ≤ d by omega) HC7.out hb810 hRD (fun hm => by have := HST7.out.lt.2 _ hm; have := hgr8.size; omega) (show B0 ≤ w8.heap.size by have := hgr8.size; omega) hg10
              have hol7 := World.ownsRow.lt HST7.out.ol gu rfl
              have hom7 := World.ownsRow.lt HST7.out.om gv rfl
              have hb17 : Below B0 w4 w7 := (HB5.out.trans (HB6.out.mono (by omega))).trans (HB7.out.mono (by omega))
              have hb18 : Below B0 w4 w8 := hb17.grown hgr8 (by omega) (fun x hx => by injection hx with hx; have hx' : gu = x := hx; omega)
              have hb19 := hb18.trans (hb810.mono (show B0 ≤ w8.heap.size by omega))
              have hb110 : Below B0 w4 w10 := hb19.grown hg10.grown (show B0 ≤ _ by simp; omega) (fun x hx => by injection hx with hx; have hx' : gv = x := hx; omega)
              have hszz : B0 ≤ w10.heap.size := by have := hg10.grown.size; simp at this; omega
              obtain ⟨clz, hclz⟩ : ∃ clz, clz = cl ++ [d] := ⟨_, rfl⟩
              obtain ⟨mlz, hmlz⟩ : ∃ mlz, mlz = ml ++ [w8.heap.size] := ⟨_, rfl⟩
              rw [← hclz, ← hmlz] at hpush
              have HSTZ := Lib.hid hpush
              have HBZ := Lib.hid hb110
              have HBZZ := Lib.hid hszz
              have HLZ := Lib.hid (show clz.length ≤ i + 1 + 1 by rw [hclz]; simp; have := HCL.out; omega)
              obtain ⟨wz, hwz⟩ : ∃ wz, wz = w10 := ⟨_, rfl⟩
              subst hwz
              clear hg10 hgr8 hown8 hown10 hcb hRO x1 x2 x3 x4 hRD hb810 hlt5 hpush hol7 hom7 hb17 hb18 hb19 hb110 hszz hclz hmlz om8b
              obtain ⟨k', gu', cu', gv', cv', c', m', D', hkl', hu', hku', hv', hkv', z1', z2', z3', z4', hC', hR', y1', y2', y3', y4', _⟩ := HSTZ.out.top
              first | subst hu' | (injection hu' with a1 a2 a3; injection a1 with a1; injection a1 with a1 _ _; have a1 := a1.symm; subst a1; have a3 := a3.symm; subst a3; first | subst a2 | (have a2' : k' = k := (by omega); subst a2'))
              first | subst hv' | (injection hv' with a1 a2 a3; injection a1 with a1; injection a1 with a1 _ _; have a1 := a1.symm; subst a1; have a3 := a3.symm; subst a3)
              have hdg := chdigest_any c' s D' wz hC'
              have HDG := Lib.hid hdg
              have HRZ := Lib.hid hR'
              have ix0 : (0 : Int) ≤ (k' : Int) := by omega
              have ix1 : (k' : Int) < (k' : Int) + 1 := by omega
              have ib : k' ≤ 3518437208884 := by have := HLZ.out; omega
              have iw : IntKind.i64.wrap (k' : Int) = k' := IntWalk.i64_in _ (by constructor <;> omega)
              clear hdg hC' hR' y1' y2' y3' y4' hkl' z3' z4'
              go_wp2_with fail
              refine (HDG.out).mono ?_
              rintro e w6 ⟨vd, rfl, hownd, hb6⟩
              have z26 := (hb6.cell (p := ⟨gv', k', none⟩) (block_lt_of_cell z2')).trans z2'
              have hR6 := HRZ.out.below hb6
              obtain ⟨gd, capd, csd, r1, r2, r3, r4, r5, r6, r7⟩ := id hR6
              have rm1 : w6.cell? ⟨m', 1, none⟩ = some (.slice (some ⟨gd, 0, none⟩) 4 capd) := (Blk.cell r1 1).trans rfl
              obtain ⟨Ad, nd, cd, rfl, hld, hcd, _, sld⟩ := hownd.shapeN
              have his := ints_sameH Ad (some ⟨gd, 0, none⟩) nd cd 4 capd D' D' hld r4 rfl (by rw [← hld, r4]; omega) w6 sld r3
              have HIS := Lib.hid his
              have hsp := fun n6 => spoil_any wz.heap.size (.slice Ad nd cd) nd D' hld (by rw [← hld, r4]; omega) (w6.drewN n6) hb6.size hownd
              have HSP := Lib.hid hsp
              have HOD := Lib.hid (fun g hg => (hownd.lt g hg).1)
              have HB6 := Lib.hid hb6
              clear hb6 hR6 r1 r2 r3 r4 r5 r6 r7 hld sld his hsp hownd
              go_wp2_with fail
              refine (HIS.out).mono ?_
              rintro e w7 ⟨rfl, n7, rfl⟩
              go_wp2_with fail
              refine (HSP.out n7).mono ?_
              rintro e w8 ⟨⟨rv, rfl⟩, hg8⟩
              have hb8 : Below wz.heap.size wz w8 := (below_drewN HB6.out n7).grown hg8 HB6.out.size (fun g hg => HOD.out g hg)
              have HS8 := Lib.hid (HSTZ.out.below hb8)
              have HB8 := Lib.hid (HBZ.out.trans (hb8.mono HBZZ.out))
              clear hb8 hg8
              go_wp2
              go_roundw
              case rel => exact ⟨i + 1, clz, mlz, by omega, by go_num, HLZ.out, HS8.out, HB8.out⟩
              case measure => simp [intOf]; omega
            · by_cases hK6 : K = 6
              · subst hK6
                clear hK5 o1 o2
                by_cases hk0 : k = 0
                · have t5 : ¬ (0 : Int) < (k : Int) := by omega
                  clear hk0 z1 z2 y1 y2 y3 y4
                  have hq04 := HB04.out
                  have hq5 := H5B.out
                  obtain ⟨wz, hwz⟩ : ∃ wz, wz = w5 := ⟨_, rfl⟩
                  subst hwz
                  have HSTZ := HS5
                  have HBZ := HB5
                  have HBZZ := Lib.hid (show B0 ≤ wz.heap.size by omega)
                  obtain ⟨clz, hclz⟩ : ∃ clz, clz = cl := ⟨_, rfl⟩
                  obtain ⟨mlz, hmlz⟩ : ∃ mlz, mlz = ml := ⟨_, rfl⟩
                  subst hclz hmlz
                  have HLZ := Lib.hid (show clz.length ≤ i + 1 + 1 by have := HCL.out; omega)
                  obtain ⟨k', gu', cu', gv', cv', c', m', D', hkl', hu', hku', hv', hkv', z1', z2', z3', z4', hC', hR', y1', y2', y3', y4', _⟩ := HSTZ.out.top
                  first | subst hu' | (injection hu' with a1 a2 a3; injection a1 with a1; injection a1 with a1 _ _; have a1 := a1.symm; subst a1; have a3 := a3.symm; subst a3; first | subst a2 | (have a2' : k' = k := (by omega); subst a2'))
                  first | subst hv' | (injection hv' with a1 a2 a3; injection a1 with a1; injection a1 with a1 _ _; have a1 := a1.symm; subst a1; have a3 := a3.symm; subst a3)
                  have hdg := chdigest_any c' s D' wz hC'
                  have HDG := Lib.hid hdg
                  have HRZ := Lib.hid hR'
                  have ix0 : (0 : Int) ≤ (k' : Int) := by omega
                  have ix1 : (k' : Int) < (k' : Int) + 1 := by omega
                  have ib : k' ≤ 3518437208884 := by have := HLZ.out; omega
                  have iw : IntKind.i64.wrap (k' : Int) = k' := IntWalk.i64_in _ (by constructor <;> omega)
                  clear hdg hC' hR' y1' y2' y3' y4' hkl' z3' z4'
                  go_wp2_with fail
                  refine (HDG.out).mono ?_
                  rintro e w6 ⟨vd, rfl, hownd, hb6⟩
                  have z26 := (hb6.cell (p := ⟨gv', k', none⟩) (block_lt_of_cell z2')).trans z2'
                  have hR6 := HRZ.out.below hb6
                  obtain ⟨gd, capd, csd, r1, r2, r3, r4, r5, r6, r7⟩ := id hR6
                  have rm1 : w6.cell? ⟨m', 1, none⟩ = some (.slice (some ⟨gd, 0, none⟩) 4 capd) := (Blk.cell r1 1).trans rfl
                  obtain ⟨Ad, nd, cd, rfl, hld, hcd, _, sld⟩ := hownd.shapeN
                  have his := ints_sameH Ad (some ⟨gd, 0, none⟩) nd cd 4 capd D' D' hld r4 rfl (by rw [← hld, r4]; omega) w6 sld r3
                  have HIS := Lib.hid his
                  have hsp := fun n6 => spoil_any wz.heap.size (.slice Ad nd cd) nd D' hld (by rw [← hld, r4]; omega) (w6.drewN n6) hb6.size hownd
                  have HSP := Lib.hid hsp
                  have HOD := Lib.hid (fun g hg => (hownd.lt g hg).1)
                  have HB6 := Lib.hid hb6
                  clear hb6 hR6 r1 r2 r3 r4 r5 r6 r7 hld sld his hsp hownd
                  go_wp2_with fail
                  refine (HIS.out).mono ?_
                  rintro e w7 ⟨rfl, n7, rfl⟩
                  go_wp2_with fail
                  refine (HSP.out n7).mono ?_
                  rintro e w8 ⟨⟨rv, rfl⟩, hg8⟩
                  have hb8 : Below wz.heap.size wz w8 := (below_drewN HB6.out n7).grown hg8 HB6.out.size (fun g hg => HOD.out g hg)
                  have HS8 := Lib.hid (HSTZ.out.below hb8)
                  have HB8 := Lib.hid (HBZ.out.trans (hb8.mono HBZZ.out))
                  clear hb8 hg8
                  go_wp2
                  go_roundw
                  case rel => exact ⟨i + 1, clz, mlz, by omega, by go_num, HLZ.out, HS8.out, HB8.out⟩
                  case measure => simp [intOf]; omega
                · have hq04 := HB04.out
                  have hq5 := H5B.out
                  have hpop := HS5.out.pop (k := k) (by have := HKL.out; omega) (by omega)
                  obtain ⟨wz, hwz⟩ : ∃ wz, wz = w5 := ⟨_, rfl⟩
                  subst hwz
                  obtain ⟨clz, hclz⟩ : ∃ clz, clz = cl.take k := ⟨_, rfl⟩
                  obtain ⟨mlz, hmlz⟩ : ∃ mlz, mlz = ml.take k := ⟨_, rfl⟩
                  rw [← hclz, ← hmlz] at hpop
                  have HSTZ := Lib.hid hpop
                  have HBZ := HB5
                  have HBZZ := Lib.hid (show B0 ≤ wz.heap.size by omega)
                  have HLZ := Lib.hid (show clz.length ≤ i + 1 + 1 by rw [hclz]; simp; have := HCL.out; omega)
                  have t5 : (0 : Int) < (k : Int) := by omega
                  have t6 : (k : Int) ≤ (cu : Int) := by omega
                  have t7 : (k : Int) ≤ (cv : Int) := by omega
                  clear hpop hclz hmlz hk0 z1 z2 y1 y2 y3 y4
                  obtain ⟨k', gu', cu', gv', cv', c', m', D', hkl', hu', hku', hv', hkv', z1', z2', z3', z4', hC', hR', y1', y2', y3', y4', _⟩ := HSTZ.out.top
                  first | subst hu' | (injection hu' with a1 a2 a3; injection a1 with a1; injection a1 with a1 _ _; have a1 := a1.symm; subst a1; have a3 := a3.symm; subst a3; first | subst a2 | (have a2' : k' = k := (by omega); subst a2'))
                  first | subst hv' | (injection hv' with a1 a2 a3; injection a1 with a1; injection a1 with a1 _ _; have a1 := a1.symm; subst a1; have a3 := a3.symm; subst a3)
                  have hdg := chdigest_any c' s D' wz hC'
                  have HDG := Lib.hid hdg
                  have HRZ := Lib.hid hR'
                  have ix0 : (0 : Int) ≤ (k' : Int) := by omega
                  have ix1 : (k' : Int) < (k' : Int) + 1 := by omega
                  have ib : k' ≤ 3518437208884 := by have := HLZ.out; omega
                  have iw : IntKind.i64.wrap (k' : Int) = k' := IntWalk.i64_in _ (by constructor <;> omega)
                  clear hdg hC' hR' y1' y2' y3' y4' hkl' z3' z4'
                  go_wp2_with fail
                  refine (HDG.out).mono ?_
                  rintro e w6 ⟨vd, rfl, hownd, hb6⟩
                  have z26 := (hb6.cell (p := ⟨gv', k', none⟩) (block_lt_of_cell z2')).trans z2'
                  have hR6 := HRZ.out.below hb6
                  obtain ⟨gd, capd, csd, r1, r2, r3, r4, r5, r6, r7⟩ := id hR6
                  have rm1 : w6.cell? ⟨m', 1, none⟩ = some (.slice (some ⟨gd, 0, none⟩) 4 capd) := (Blk.cell r1 1).trans rfl
                  obtain ⟨Ad, nd, cd, rfl, hld, hcd, _, sld⟩ := hownd.shapeN
                  have his := ints_sameH Ad (some ⟨gd, 0, none⟩) nd cd 4 capd D' D' hld r4 rfl (by rw [← hld, r4]; omega) w6 sld r3
                  have HIS := Lib.hid his
                  have hsp := fun n6 => spoil_any wz.heap.size (.slice Ad nd cd) nd D' hld (by rw [← hld, r4]; omega) (w6.drewN n6) hb6.size hownd
                  have HSP := Lib.hid hsp
                  have HOD := Lib.hid (fun g hg => (hownd.lt g hg).1)
                  have HB6 := Lib.hid hb6
                  clear hb6 hR6 r1 r2 r3 r4 r5 r6 r7 hld sld his hsp hownd
                  go_wp2_with fail
                  refine (HIS.out).mono ?_
                  rintro e w7 ⟨rfl, n7, rfl⟩
                  go_wp2_with fail
                  refine (HSP.out n7).mono ?_
                  rintro e w8 ⟨⟨rv, rfl⟩, hg8⟩
                  have hb8 : Below wz.heap.size wz w8 := (below_drewN HB6.out n7).grown hg8 HB6.out.size (fun g hg => HOD.out g hg)
                  have HS8 := Lib.hid (HSTZ.out.below hb8)
                  have HB8 := Lib.hid (HBZ.out.trans (hb8.mono HBZZ.out))
                  clear hb8 hg8
                  go_wp2
                  go_roundw
                  case rel => exact ⟨i + 1, clz, mlz, by omega, by go_num, HLZ.out, HS8.out, HB8.out⟩
                  case measure => simp [intOf]; omega
              · have t5 : (K == 5) = false := by rw [beq_eq_false_iff_ne]; exact hK5
                have t6 : (K == 6) = false := by rw [beq_eq_false_iff_ne]; exact hK6
                have hdn := fun W (F : Fld W w2.heap.size b q) (G : Spg W s b z zz oo) hC hR hsl => done_any q w2.heap.size b s z zz c m B0 oo HK.out K N q7 q8 hN A2 n2 c2 L HQ3.out HQ5.out q4 D W F G HSB.out hsB z3 z4 hC hR hsl
                have HDN := Lib.hid hdn
                have hF5 := HF4.out.below HB5.out HSB.out
                have hG5 := HG4.out.below HB5.out hsB
                have HF5 := Lib.hid hF5
                have HG5 := Lib.hid (show Spg w5.drew s b z zz oo from hG5.below (B := B0) (below_drewN (Below.refl B0 w5) 1) hsB)
                have hoc : o ≠ c := Blk.ne_ HOB.out (HC5.out.obj.choose_spec) (by decide)
                have hom : o ≠ m := by
                  obtain ⟨gd, capd, csd, r1, _⟩ := HR5.out
                  exact Blk.ne_ HOB.out r1 (by decide)
                have HHH := Lib.hid (And.intro hoc hom)
                have HYY := Lib.hid (And.intro y1 (And.intro y2 (And.intro y3 y4)))
                have hz3 := z3
                have hz4 := z4
                clear hK5 hK6 hdn hF5 hG5 q7 q8 hN hoc hom y1 y2 y3 y4
                go_upto_region 26 with (fail)
                go_region_held3 (fun w' => w'.cell? ⟨gu, k, none⟩ = some (.pointer (some ⟨c, 0, none⟩)) ∧ w'.cell? ⟨gv, k, none⟩ = some (.pointer (some ⟨m, 0, none⟩)) ∧ w'.cell? ⟨o, 0, none⟩ = some (vi K) ∧ w'.cell? ⟨o, 1, none⟩ = some (vi N) ∧ w'.cell? ⟨o, 2, none⟩ = some (.slice A2 n2 c2)) (first | exact ⟨z1, z2, o0, o1, o2⟩ | exact ⟨hg6.cell z1 HYY.out.1 HYY.out.2.1, hg6.cell z2 HYY.out.2.2.1 HYY.out.2.2.2, hg6.cell o0 HHH.out.1 HHH.out.2, hg6.cell o1 HHH.out.1 HHH.out.2, hg6.cell o2 HHH.out.1 HHH.out.2⟩) ((go_at_call 8; refine (HDN.out w5.drew (show Fld w5.drew w2.heap.size b q from HF5.out.drewN 1) HG5.out HC5.out HR5.out HOP.out).mono ?_; rintro e w6 ⟨rfl, hnew, hg6d⟩; have hg6 : Grow2 w5 w6 c m := ⟨hg6d.os, hg6d.tape, hg6d.output, hg6d.size, hg6d.block⟩; clear hg6d))
                all_goals
                  have hq04 := HB04.out
                  have hq5 := H5B.out
                  have hst6 := HSTEP.out w6 hg6 hnew
                  have hb6 : Below B0 w4 w6 := HB5.out.trans (hg6.below (by omega) hz3 hz4)
                  have hsz6 := hg6.size
                  obtain ⟨wz, hwz⟩ : ∃ wz, wz = w6 := ⟨_, rfl⟩
                  subst hwz
                  have HSTZ := Lib.hid hst6
                  have HBZ := Lib.hid hb6
                  have HBZZ := Lib.hid (show B0 ≤ wz.heap.size by omega)
                  obtain ⟨clz, hclz⟩ : ∃ clz, clz = cl := ⟨_, rfl⟩
                  obtain ⟨mlz, hmlz⟩ : ∃ mlz, mlz = ml := ⟨_, rfl⟩
                  subst hclz hmlz
                  have HLZ := Lib.hid (show clz.length ≤ i + 1 + 1 by have := HCL.out; omega)
                  clear hst6 hb6 hnew hg6 z1 z2 o0 o1 o2
                  obtain ⟨k', gu', cu', gv', cv', c', m', D', hkl', hu', hku', hv', hkv', z1', z2', z3', z4', hC', hR', y1', y2', y3', y4', _⟩ := HSTZ.out.top
                  first | subst hu' | (injection hu' with a1 a2 a3; injection a1 with a1; injection a1 with a1 _ _; have a1 := a1.symm; subst a1; have a3 := a3.symm; subst a3; first | subst a2 | (have a2' : k' = k := (by omega); subst a2'))
                  first | subst hv' | (injection hv' with a1 a2 a3; injection a1 with a1; injection a1 with a1 _ _; have a1 := a1.symm; subst a1; have a3 := a3.symm; subst a3)
                  have hdg := chdigest_any c' s D' wz hC'
                  have HDG := Lib.hid hdg
                  have HRZ := Lib.hid hR'
                  have ix0 : (0 : Int) ≤ (k' : Int) := by omega
                  have ix1 : (k' : Int) < (k' : Int) + 1 := by omega
                  have ib : k' ≤ 3518437208884 := by have := HLZ.out; omega
                  have iw : IntKind.i64.wrap (k' : Int) = k' := IntWalk.i64_in _ (by constructor <;> omega)
                  clear hdg hC' hR' y1' y2' y3' y4' hkl' z3' z4'
                  go_wp2_with fail
                  refine (HDG.out).mono ?_
                  rintro e w6 ⟨vd, rfl, hownd, hb6⟩
                  have z26 := (hb6.cell (p := ⟨gv', k', none⟩) (block_lt_of_cell z2')).trans z2'
                  have hR6 := HRZ.out.below hb6
                  obtain ⟨gd, capd, csd, r1, r2, r3, r4, r5, r6, r7⟩ := id hR6
                  have rm1 : w6.cell? ⟨m', 1, none⟩ = some (.slice (some ⟨gd, 0, none⟩) 4 capd) := (Blk.cell r1 1).trans rfl
                  obtain ⟨Ad, nd, cd, rfl, hld, hcd, _, sld⟩ := hownd.shapeN
                  have his := ints_sameH Ad (some ⟨gd, 0, none⟩) nd cd 4 capd D' D' hld r4 rfl (by rw [← hld, r4]; omega) w6 sld r3
                  have HIS := Lib.hid his
                  have hsp := fun n6 => spoil_any wz.heap.size (.slice Ad nd cd) nd D' hld (by rw [← hld, r4]; omega) (w6.drewN n6) hb6.size hownd
                  have HSP := Lib.hid hsp
                  have HOD := Lib.hid (fun g hg => (hownd.lt g hg).1)
                  have HB6 := Lib.hid hb6
                  clear hb6 hR6 r1 r2 r3 r4 r5 r6 r7 hld sld his hsp hownd
                  go_wp2_with fail
                  refine (HIS.out).mono ?_
                  rintro e w7 ⟨rfl, n7, rfl⟩
                  go_wp2_with fail
                  refine (HSP.out n7).mono ?_
                  rintro e w8 ⟨⟨rv, rfl⟩, hg8⟩
                  have hb8 : Below wz.heap.size wz w8 := (below_drewN HB6.out n7).grown hg8 HB6.out.size (fun g hg => HOD.out g hg)
                  have HS8 := Lib.hid (HSTZ.out.below hb8)
                  have HB8 := Lib.hid (HBZ.out.trans (hb8.mono HBZZ.out))
                  clear hb8 hg8
                  go_wp2
                  go_roundw
                  case rel => exact ⟨i + 1, clz, mlz, by omega, by go_num, HLZ.out, HS8.out, HB8.out⟩
                  case measure => simp [intOf]; omega
          · have t2 : ¬ (i : Int) < (ns : Int) := by omega
            have HFIN := Lib.hid (HBW4.out.trans (hb.mono HWB.out))
            clear hst hb
            go_wp2
            go_ret
            exact ⟨rfl, HFIN.out⟩
  · have HN := Lib.hid (HSPN.out hF)
    clear hF HSPN
    go_enter Tryd.func3, Tryd.ntmps3
    go_wp2
    go_loopw [7, 8] (fun v t wr => ∃ (k : Nat) (S : Int), k ≤ ns ∧ t = vi k ∧ v = vi S ∧ 0 ≤ S ∧ S ≤ 20000 ∧ w = wr) (fun _ t _ => ns - (intOf t).toNat)
    case atStart => exact ⟨0, 0, Nat.zero_le _, rfl, rfl, by omega, by omega, rfl⟩
    case round =>
      obtain ⟨k, S, hk, rfl, rfl, hS0, hS1, rfl⟩ := hrel
      by_cases hkn : k < ns
      · have hkl : k < os.length := by rw [HA.out.len]; exact hkn
        obtain ⟨ad, rfl, had, hop⟩ := HA.out.at_ k hkl
        obtain ⟨A2, n2, c2, q0, q1, q2, q3, q4, q5, q6, q7, q8⟩ := hop.cells
        have k1 : (0 : Int) ≤ (k : Int) := by omega
        have k2 : (k : Int) < (ns : Int) := by omega
        obtain ⟨N, hN⟩ : ∃ N, N = os[k].n := ⟨_, rfl⟩
        rw [← hN] at q1 q8
        obtain ⟨q8a, q8b⟩ := q8
        clear hop q0 q2 q3 q5 q6 q7 hN
        by_cases c1 : 20000 < N
        · have t1 : decide ((20000 : Int) < N) = true := by simp; omega
          go_wp2
          go_ret
          exact ⟨rfl, Below.refl _ _⟩
        · have t1 : decide ((20000 : Int) < N) = false := by simp; omega
          by_cases c2 : 0 < N
          · have t2 : decide ((0 : Int) < N) = true := by simp; omega
            by_cases c3 : 20000 < S + N
            · have t3 : decide ((20000 : Int) < S + N) = true := by simp; omega
              go_wp2
              go_ret
              exact ⟨rfl, Below.refl _ _⟩
            · have t3 : decide ((20000 : Int) < S + N) = false := by simp; omega
              go_wp2
              go_roundw
              case rel => exact ⟨k + 1, S + N, by omega, by go_num, rfl, by omega, by omega, by trivial⟩
              case measure => simp [intOf]; omega
          · have t2 : decide ((0 : Int) < N) = false := by simp; omega
            have t3 : decide ((20000 : Int) < S) = false := by simp; omega
            go_wp2
            go_roundw
            case rel => exact ⟨k + 1, S, by omega, by go_num, rfl, by omega, by omega, by trivial⟩
            case measure => simp [intOf]; omega
      · have t1 : ¬ (k : Int) < (ns : Int) := by omega
        go_wp2_with fail
        refine (HN.out).mono ?_
        rintro e w2 ⟨rfl, hb2⟩
        go_wp2
        go_ret
        exact ⟨rfl, hb2⟩
end Go.Proofs.YtijhajkakmohnaaDoor

/- Own slices of slices of ints: append of one; how they read; slices of slices of ints that came in. -/
set_option linter.unusedVariables false
namespace Go.Proofs.YtijhajkakmohnaaDoor
open Go.RowKit

theorem info_ints : (Tryd.prog.info? 22).map (fun i => (i.zero, i.size, i.bytes)) = some (some (.slice none 0 0), 1, 24) := by kernel_rfl

/-- the call's own slice of slices of ints -/
abbrev OwnR (w : World) (base : Nat) (v : Value) (us : List Value) : Prop := w.ownsRow base 22 1 v us.length us
/-- each is a slice of ints of the call's own -/
def RowsOwn (w : World) (base : Nat) (us : List Value) (ls : List (List Int)) : Prop := us.length = ls.length ∧ ∀ k (h : k < us.length) (h' : k < ls.length), Own w base us[k] ls[k]

theorem own_ne {w : World} {base base' : Nat} {v u : Value} {xs : List Int} {us : List Value} (h : Own w base v xs) (k : OwnR w base' u us) : v.ownBlock = none ∨ v.ownBlock ≠ u.ownBlock := by
  rcases h.2 with ⟨rfl, _⟩ | ⟨g, cap, cur, rfl, _, hg, _⟩
  · exact .inl rfl
  · refine .inr ?_
    rcases k.2 with ⟨rfl, _⟩ | ⟨g', cap', cur', rfl, _, hg', _⟩
    · intro e; cases e
    · intro e
      injection e with e
      subst e
      rw [hg] at hg'
      injection hg' with hg'
      injection hg' with _ ht
      exact absurd ht (by decide)

/-- what an append of an own row leaves -/
structure GrewR (w w' : World) (base : Nat) (v v' : Value) (us : List Value) : Prop where
  own : OwnR w' base v' us
  grown : w.grownBy w' v.ownBlock

theorem GrewR.below {w0 w w' : World} {base : Nat} {v v' : Value} {us vs : List Value} (h : GrewR w w' base v v' us) {B : Nat} (hb : Below B w0 w) (ho : OwnR w base v vs) (hB : B ≤ base) (hs : B ≤ w.heap.size) : Below B w0 w' :=
  hb.grown h.grown hs (fun k hk => Nat.le_trans hB (World.ownsRow.lt ho k hk).1)
theorem GrewR.rows {w w' : World} {base base2 : Nat} {v v' : Value} {us vs ws : List Value} {ls : List (List Int)} (h : GrewR w w' base v v' us) (ho : OwnR w base v vs) (hr : RowsOwn w base2 ws ls) : RowsOwn w' base2 ws ls :=
  ⟨hr.1, fun k h1 h2 => (hr.2 k h1 h2).grown h.grown (own_ne (hr.2 k h1 h2) ho)⟩

theorem run_appR (w : World) (base : Nat) (v : Value) (us : List Value) (A : Option Addr) (n c : Nat) (hown : OwnR w base v us) (hlen : us.length < 5864062014805) (hbase : base ≤ w.heap.size) (ty : TypeId) :
    ∃ v' w', (Builtin.append_ #[72, 72] ty #[v, .slice (some ⟨w.heap.size, 0, none⟩) 1 1]).run Tryd.prog (w.alloc (.cells #[.slice A n c] 22)) = .ok v' w' ∧ GrewR w w' base v v' (us ++ [.slice A n c]) := by
  obtain ⟨i0, hi, hz0, hz1, hz2⟩ := info_parts info_ints
  obtain ⟨v', w', hrun, h2, h3, _, h5⟩ := run_append_own_at (P := Tryd.prog) (w.alloc (.cells #[.slice A n c] 22)) base 72 ty 22 i0 _ 1 24 Tryd.underlying72 hi hz0 hz1 hz2 rfl (by omega)
    v us.length us (hown.alloc _) ⟨w.heap.size, 0, none⟩ 1 1 [.slice A n c] rfl (by
      intro j u hj
      match j, hj with
      | 0, hj => simp at hj; subst hj; simp [Addr.add]) (by simp [Value.oneCell']) (by simp only [maxLen]; omega) (by omega) (by simp; omega)
  refine ⟨v', w', hrun, ?_, grownBy_trans (World.grownBy_alloc w _ _) h3⟩
  have e : (us ++ [Value.slice A n c]).length = us.length + 1 := by simp
  rw [OwnR, e]
  exact h2

/-- append of one row -/
theorem wpList_appR {ops : Array Oper} {rest : List Oper} {o : Oper} {a : Act} {Q : Exit → Act → World → Prop} (w : World) (A : Option Addr) (n c : Nat) (hgd : o.guard = none) (s x : Operand)
    (ho : o.op = .call { callee := .builtin .append, args := #[s, x], argTypes := #[72, 72] })
    (base : Nat) (v : Value) (us : List Value) (hs : a.eval s = v) (hx : a.eval x = .slice (some ⟨w.heap.size, 0, none⟩) 1 1) (hown : OwnR w base v us) (hlen : us.length < 5864062014805) (hbase : base ≤ w.heap.size)
    (h : ∀ v' w', GrewR w w' base v v' (us ++ [.slice A n c]) → wpList Tryd.prog ops Q rest (a.put o.dst v') w') : wpList Tryd.prog ops Q (o :: rest) a (w.alloc (.cells #[.slice A n c] 22)) :=
  wpList_plain hgd fun _ hK => by
    obtain ⟨v', w', hrun, hg⟩ := run_appR w base v us A n c hown hlen hbase o.type
    unfold Oper.wp execOp
    simp only [ho, resolve, invoke, builtin, Sem.run_bind, Sem.run_pure, Result.andThen_ok, List.map_toArray, List.map_cons, List.map_nil, hs, hx, hrun]
    exact hK _ _ (h v' w' hg)

theorem RowsOwn.nil (w : World) (base : Nat) : RowsOwn w base [] [] := ⟨rfl, fun k h => absurd h (by simp)⟩
theorem RowsOwn.snoc {w : World} {base : Nat} {us : List Value} {ls : List (List Int)} {u : Value} {l : List Int} (h : RowsOwn w base us ls) (hu : Own w base u l) : RowsOwn w base (us ++ [u]) (ls ++ [l]) := by
  have hl := h.1
  refine ⟨by simp [hl], fun k h1 h2 => ?_⟩
  by_cases hk : k < us.length
  · rw [List.getElem_append_left hk, List.getElem_append_left (by omega)]
    exact h.2 k hk (by omega)
  · have e : k = us.length := by simp at h1; omega
    subst e
    rw [List.getElem_append_right (Nat.le_refl _), List.getElem_append_right (by omega)]
    simpa [hl] using hu
theorem RowsOwn.below {w w' : World} {base : Nat} {us : List Value} {ls : List (List Int)} (h : RowsOwn w base us ls) (hb : Below w.heap.size w w') : RowsOwn w' base us ls := ⟨h.1, fun k h1 h2 => (h.2 k h1 h2).below hb⟩
theorem RowsOwn.more {w : World} {base base' : Nat} {us : List Value} {ls : List (List Int)} (h : RowsOwn w base us ls) (hb : base' ≤ base) : RowsOwn w base' us ls := ⟨h.1, fun k h1 h2 => (h.2 k h1 h2).more hb⟩

/-- own rows read as tables -/
theorem tb_own {w : World} {base base2 : Nat} {A : Option Addr} {n c : Nat} {us : List Value} {ls : List (List Int)} (h : OwnR w base (.slice A n c) us) (hr : RowsOwn w base2 us ls) (hi : ∀ l ∈ ls, ∀ x ∈ l, I64 x) : TB w A ls := fun k hk => by
  have hku : k < us.length := by rw [hr.1]; exact hk
  have hn : us.length = n := by
    rcases h.2 with ⟨e, h0⟩ | ⟨g, cap, cur, e, _⟩
    · injection e with _ e2 _; omega
    · injection e with _ e2 _; exact e2.symm
  subst hn
  have hrd := Reads.of_own h
  obtain ⟨ad, u, e1, e2, e3, e4⟩ := Reads.at_ (k := k) hrd (by omega)
  have e5 : u = us[k] := by
    rw [List.getElem?_eq_getElem hku] at e3
    injection e3 with e3
    exact e3.symm
  obtain ⟨A1, n1, c1, e6, e7, e8, e9, e10⟩ := (hr.2 k hku hk).shapeN
  have hm : maxLen < 9223372036854775808 := by simp [maxLen]
  exact ⟨ad, A1, n1, c1, e1, by rw [block_of_add]; exact e2, by rw [e4, e5, e6], e7, by omega, e10, hi _ (List.getElem_mem hk)⟩
theorem ownR_shape {w : World} {base : Nat} {v : Value} {us : List Value} (h : OwnR w base v us) : ∃ A n c, v = .slice A n c ∧ us.length = n ∧ n ≤ c := by
  rcases h.2 with ⟨rfl, h0⟩ | ⟨g, cap, cur, rfl, _, _, h1, _⟩
  · exact ⟨none, 0, 0, rfl, h0, Nat.le_refl _⟩
  · exact ⟨_, _, _, rfl, rfl, h1⟩

/-- '.slice A n c' came in and reads as rows -/
structure ArgM (w : World) (A : Option Addr) (n c : Nat) (ts : List (List Int)) : Prop where
  len : ts.length = n
  cap : n ≤ c
  max : c ≤ 9223372036854775807
  tb : TB w A ts
theorem ArgM.nil (w : World) : ArgM w none 0 0 [] := ⟨rfl, Nat.le_refl _, by omega, fun k hk => absurd hk (by simp)⟩
theorem ArgM.mk_ {w : World} {a : Addr} {len cap : Nat} {A : Nat → Option Addr} {L C : Nat → Nat} {Z : Nat → List Int} (hl : len ≤ cap) (hm : cap ≤ maxLen)
    (h : ∀ r, r < cap → w.cell? (a.add r) = some (.slice (A r) (L r) (C r)) ∧ L r ≤ C r ∧ C r ≤ maxLen ∧ (Z r).length = C r ∧ (∀ n ∈ Z r, (Lit.int .i64 n).wf = true) ∧ (A r = none → C r = 0) ∧
        ∀ a', A r = some a' → 0 ≤ a'.block ∧ ∀ c, c < C r → w.cell? (a'.add c) = some (.int .i64 ((Z r).getD c 0))) :
    ArgM w (some a) len cap ((List.range len).map fun r => (Z r).take (L r)) := by
  have hmm : maxLen ≤ 9223372036854775807 := by simp [maxLen]
  refine ⟨by simp, hl, by omega, fun k hk => ?_⟩
  have hk' : k < len := by simpa using hk
  obtain ⟨h1, h2, h3, h4, h5, h6, h7⟩ := h k (by omega)
  have e : ((List.range len).map fun r => (Z r).take (L r))[k] = (Z k).take (L k) := by simp
  rw [e]
  have hlen : ((Z k).take (L k)).length = L k := by rw [List.length_take, h4]; omega
  refine ⟨a, A k, L k, C k, rfl, block_lt_of_cell h1, h1, hlen, by omega, ⟨by simp, fun hn => ?_⟩, fun x hx => i64_of_wf (h5 x (List.mem_of_mem_take hx))⟩
  rw [hlen] at hn
  cases hA : A k with
  | none => have := h6 hA; omega
  | some a' =>
    obtain ⟨_, h8⟩ := h7 a' hA
    have hc0 := h8 0 (by omega)
    refine ⟨a', rfl, ?_, fun j u hu => ?_⟩
    · have := block_lt_of_cell hc0
      rwa [block_of_add] at this
    · rw [List.getElem?_map] at hu
      cases hj : ((Z k).take (L k))[j]? with
      | none => rw [hj] at hu; cases hu
      | some x =>
        rw [hj] at hu
        injection hu with hu
        rw [List.getElem?_take] at hj
        split at hj
        · have hjl : j < (Z k).length := (List.getElem?_eq_some_iff.1 hj).1
          rw [h8 j (by omega), ← hu]
          simp [List.getD_eq_getElem?_getD, hj]
        · cases hj
end Go.Proofs.YtijhajkakmohnaaDoor

/- What a row of a slice of slices weighs at most. -/
set_option linter.unusedVariables false
namespace Go.Proofs.YtijhajkakmohnaaDoor
open Go.RowKit Go.ChangeShapes

theorem weightsAll_mem {H : Type} {P : Program} {e : TypeId} {d : DataW H} {n : Nat} : ∀ {l : List (DataW H)}, d ∈ l → n ∈ d.weights P e → n ∈ DataW.weightsAll P e l
  | x :: l, hd, hn => by
    simp only [DataW.weightsAll, List.mem_append]
    rcases List.mem_cons.1 hd with rfl | h
    · exact .inl hn
    · exact .inr (weightsAll_mem h hn)
theorem sized_row {H : Type} {P : Program} {ts : List TypeId} {ds : List (DataW H)} (h : (DataW.weightsEach P ts ds).all (· ≤ reachBytes) = true) {j : Nat} {t e q : TypeId} {elems spare el sp : List (DataW H)} (ht : ts[j]? = some t) (hd : ds[j]? = some (.slice elems spare)) (hu : P.underlying t = some (.slice e)) (hv : P.underlying e = some (.slice q))
    (hm : .slice el sp ∈ elems) : (el.length + sp.length) * P.bytesOf q ≤ reachBytes := by
  have h1 : (el.length + sp.length) * P.bytesOf q ∈ DataW.weights P e (.slice el sp) := by simp [DataW.weights, hv]
  have h2 := weightsAll_mem hm h1
  have := List.all_eq_true.1 h _ (DataW.weights_mem_each ht hd _ (by simp only [DataW.weights, hu]; exact List.mem_cons_of_mem _ (List.mem_append_left _ h2)))
  simpa using this

theorem bytesI : Tryd.prog.bytesOf 3 = 8 := by kernel_rfl
theorem bytesR : Tryd.prog.bytesOf 22 = 24 := by kernel_rfl
/-- rows that came in, each of a length that memory holds -/
structure ArgMS (w : World) (A : Option Addr) (n c : Nat) (ts : List (List Int)) : Prop where
  m : ArgM w A n c ts
  n24 : n ≤ 5864062014805
  rows : ∀ t ∈ ts, t.length ≤ 17592186044416
theorem ArgMS.nil (w : World) : ArgMS w none 0 0 [] := ⟨ArgM.nil _, by omega, by simp⟩
theorem ArgMS.i64 {w : World} {A : Option Addr} {n c : Nat} {ts : List (List Int)} (h : ArgMS w A n c ts) : ∀ t ∈ ts, ∀ x ∈ t, I64 x := fun t ht => by
  obtain ⟨k, hk, rfl⟩ := List.mem_iff_getElem.1 ht
  obtain ⟨_, _, _, _, _, _, _, _, _, _, hi⟩ := h.m.tb k hk
  exact hi
theorem ArgMS.mk_ {H : Type} {tys : List TypeId} {ds : List (DataW H)} (hsz : (DataW.weightsEach Tryd.prog tys ds).all (· ≤ reachBytes) = true) {j : Nat} (ht : tys[j]? = some 72) {w : World} {a : Addr} {len cap : Nat} {A : Nat → Option Addr} {L C : Nat → Nat} {Z : Nat → List Int}
    (hd : ds[j]? = some (.slice ((List.range len).map fun r => Go.Deep.intRow .i64 (A r) (L r) (Z r)) ((List.range (cap - len)).map fun j => Go.Deep.intRow .i64 (A (len + j)) (L (len + j)) (Z (len + j))))) (hl : len ≤ cap) (hm : cap ≤ maxLen)
    (h : ∀ r, r < cap → w.cell? (a.add r) = some (.slice (A r) (L r) (C r)) ∧ L r ≤ C r ∧ C r ≤ maxLen ∧ (Z r).length = C r ∧ (∀ n ∈ Z r, (Lit.int .i64 n).wf = true) ∧ (A r = none → C r = 0) ∧
        ∀ a', A r = some a' → 0 ≤ a'.block ∧ ∀ c, c < C r → w.cell? (a'.add c) = some (.int .i64 ((Z r).getD c 0))) :
    ArgMS w (some a) len cap ((List.range len).map fun r => (Z r).take (L r)) := by
  refine ⟨ArgM.mk_ hl hm h, ?_, fun t hmem => ?_⟩
  · have h1 := sized_slice hsz (j := j) (t := 72) (e := 22) ht hd Tryd.underlying72
    rw [bytesR] at h1
    simp only [List.length_map, List.length_range, reachBytes] at h1
    omega
  · obtain ⟨r, hr, rfl⟩ := List.mem_map.1 hmem
    have hr' := List.mem_range.1 hr
    obtain ⟨_, h2, _, h4, _, h6, _⟩ := h r (by omega)
    rw [List.length_take]
    cases hA : A r with
    | none => have := h6 hA; omega
    | some a' =>
      have hin : DataW.slice (H := H) (lits .i64 ((Z r).take (L r))) (lits .i64 ((Z r).drop (L r))) ∈ (List.range len).map fun r => Go.Deep.intRow .i64 (A r) (L r) (Z r) :=
        List.mem_map.2 ⟨r, hr, by simp only [Go.Deep.intRow, hA]⟩
      have h1 := sized_row hsz (j := j) ht hd Tryd.underlying72 Tryd.underlying22 hin
      rw [bytesI] at h1
      simp only [lits, List.length_map, List.length_take, List.length_drop, reachBytes] at h1
      omega
end Go.Proofs.YtijhajkakmohnaaDoor

/- Arguments that are structs of slices: each field opened. -/
set_option linter.unusedVariables false
namespace Go.Proofs.YtijhajkakmohnaaDoor
open Go.RowKit Go.ChangeShapes Go.WideShapes Go.ChangeAt

theorem sized_agg {H : Type} {P : Program} {ts : List TypeId} {ds : List (DataW H)} (h : (DataW.weightsEach P ts ds).all (· ≤ reachBytes) = true) {j : Nat} {t : TypeId} {fs : Array Field} {parts : List (DataW H)} (ht : ts[j]? = some t) (hd : ds[j]? = some (.agg parts)) (hu : P.underlying t = some (.struct fs)) :
    (DataW.weightsEach P (fs.toList.map (·.type)) parts).all (· ≤ reachBytes) = true := by
  rw [List.all_eq_true]
  intro n hn
  refine List.all_eq_true.1 h n (DataW.weights_mem_each ht hd n ?_)
  simp only [DataW.weights, hu]; exact hn
theorem arg_ints {H : Type} {enc : TypeId × Value → H} {tys : List TypeId} {ds : List (DataW H)} (hsz : (DataW.weightsEach Tryd.prog tys ds).all (· ≤ reachBytes) = true) {j : Nat} (ht : tys[j]? = some 22) {W : World} {n : Nat} {u : Value} {y : DataW H × List MemPlace} (hd : ds[j]? = some y.1)
    (hf : DataW.trod enc Tryd.prog W 0 (fun _ => true) true n 22 [u] = some y) : ∃ A len cap zs, u = .slice A len cap ∧ ArgS W A len cap zs := by
  have lt : ∀ x ∈ y.2, x.block < W.heap.size := DataW.trod_lt n _ _ _ hf
  rcases open_ints Tryd.underlying22 Tryd.underlying3 (by kernel_rfl) hf with ⟨hcs, hx⟩ | ⟨x, l, c, zs, hcs, _, hl, hm, hz, hx, hcell, hwz⟩
  · simp at hcs
    subst hcs
    exact ⟨none, 0, 0, [], rfl, ArgS.nil _⟩
  · simp at hcs
    subst hcs
    rw [hx] at hd lt
    have hb : c * 8 ≤ 140737488351232 := by
      have h := sized_slice hsz (j := j) (t := 22) (e := 3) ht hd Tryd.underlying22
      rw [bytesI] at h
      simp only [lits, List.length_map, List.length_take, List.length_drop, reachBytes] at h
      have hz' : zs.length = c := by simpa using hz
      omega
    exact ⟨some x, l, c, zs.take l, rfl, ArgS.mk_ hl hm (by simpa using hz) (fun p hp' => lt p hp') hcell hwz hb⟩
theorem arg_rows {H : Type} {enc : TypeId × Value → H} {tys : List TypeId} {ds : List (DataW H)} (hsz : (DataW.weightsEach Tryd.prog tys ds).all (· ≤ reachBytes) = true) {j : Nat} (ht : tys[j]? = some 72) {W : World} {n : Nat} {u : Value} {y : DataW H × List MemPlace} (hd : ds[j]? = some y.1)
    (hf : DataW.trod enc Tryd.prog W 0 (fun _ => true) true n 72 [u] = some y) : ∃ A len cap ts, u = .slice A len cap ∧ ArgMS W A len cap ts := by
  rcases Go.Deep.open_int_rows Tryd.underlying72 Tryd.underlying22 Tryd.underlying3 (by kernel_rfl) (by kernel_rfl) hf with ⟨hcs, hx⟩ | ⟨x, l, c, AA, LL, CC, ZZ, hcs, _, hl, hm, hx, hrow⟩
  · simp at hcs
    subst hcs
    exact ⟨none, 0, 0, [], rfl, ArgMS.nil _⟩
  · simp at hcs
    subst hcs
    rw [hx] at hd
    exact ⟨some x, l, c, _, rfl, ArgMS.mk_ hsz (j := j) ht hd hl hm hrow⟩
end Go.Proofs.YtijhajkakmohnaaDoor

/- An argument that is a slice of acts, opened. -/
set_option linter.unusedVariables false
namespace Go.Proofs.YtijhajkakmohnaaDoor
open Go.RowKit Go.ChangeShapes Go.WideShapes Go.ChangeAt Go.Deep

theorem bytesO : Tryd.prog.bytesOf 25 = 40 := by kernel_rfl
theorem cellsO : Tryd.prog.cellsOf 25 = 3 := by kernel_rfl
/-- what is inside an element weighs no more than memory holds -/
theorem sized_elem {H : Type} {P : Program} {ts : List TypeId} {ds : List (DataW H)} (h : (DataW.weightsEach P ts ds).all (· ≤ reachBytes) = true) {j : Nat} {t e : TypeId} {fs : Array Field} {elems spare parts : List (DataW H)} (ht : ts[j]? = some t) (hd : ds[j]? = some (.slice elems spare)) (hu : P.underlying t = some (.slice e)) (hv : P.underlying e = some (.struct fs))
    (hm : .agg parts ∈ elems) : (DataW.weightsEach P (fs.toList.map (·.type)) parts).all (· ≤ reachBytes) = true := by
  rw [List.all_eq_true]
  intro n hn
  have h1 : n ∈ DataW.weights P e (.agg parts) := by simp only [DataW.weights, hv]; exact hn
  have h2 := weightsAll_mem hm h1
  exact List.all_eq_true.1 h n (DataW.weights_mem_each ht hd n (by simp only [DataW.weights, hu]; exact List.mem_cons_of_mem _ (List.mem_append_left _ h2)))
set_option maxRecDepth 100000 in
set_option maxHeartbeats 1000000 in
theorem arg_ops {H : Type} {enc : TypeId × Value → H} {tys : List TypeId} {ds : List (DataW H)} (hsz : (DataW.weightsEach Tryd.prog tys ds).all (· ≤ reachBytes) = true) {j : Nat} (ht : tys[j]? = some 23) {W : World} {n : Nat} {u : Value} {y : DataW H × List MemPlace} (hd : ds[j]? = some y.1)
    (hf : DataW.trod enc Tryd.prog W 0 (fun _ => true) true n 23 [u] = some y) : ∃ A len cap os, u = .slice A len cap ∧ ArgO W A len cap os := by
  rcases open_slice Tryd.underlying23 hf with ⟨hcs, hx⟩ | ⟨a, len, cap, m, n', D, Pl, hcs, _, hl, hm, hmm, hx, hi⟩
  · simp at hcs
    subst hcs
    exact ⟨none, 0, 0, [], rfl, ArgO.nil _⟩
  · simp at hcs
    subst hcs
    rw [hx] at hd
    simp only [if_true] at hmm
    subst hmm
    rw [cellsO] at hi
    have hmx : len ≤ 3518437208883 := by
      have h := sized_slice hsz (j := j) (t := 23) (e := 25) ht hd Tryd.underlying23
      rw [bytesO] at h
      simp only [List.length_map, List.length_range, reachBytes] at h
      omega
    have hel : ∀ k, k < len → ∃ o : OpI, a.block < W.heap.size ∧ OpAt W W.heap.size a k o := fun k hk => by
      obtain ⟨cs', hc, ht'⟩ := hi k (by omega)
      obtain ⟨ys, n2, _, hy, hlen, hyl, hg⟩ := DataW.trod_struct Tryd.underlying25 ht'
      obtain ⟨_, hcl, hat⟩ := World.cells?_some hc
      simp only [Prod.mk.injEq] at hy
      obtain ⟨hyD, _⟩ := hy
      have hin : DataW.agg (ys.map (·.1)) ∈ (List.range len).map D := List.mem_map.2 ⟨k, List.mem_range.2 hk, hyD⟩
      have hsz2 := sized_elem hsz ht hd Tryd.underlying23 Tryd.underlying25 hin
      have hcl3 : cs'.length = 3 := hcl
      have hys3 : ys.length = 3 := hyl
      obtain ⟨c0, c1, c2, rfl⟩ : ∃ a b c, cs' = [a, b, c] := by
        match cs', hcl3 with
        | [a, b, c], _ => exact ⟨a, b, c, rfl⟩
      obtain ⟨y0, y1, y2, rfl⟩ : ∃ a b c, ys = [a, b, c] := by
        match ys, hys3 with
        | [a, b, c], _ => exact ⟨a, b, c, rfl⟩
      have k1 : Tryd.prog.cellsOf 3 = 1 := by kernel_rfl
      have k2 : Tryd.prog.cellsOf 22 = 1 := by kernel_rfl
      have g0 := hg 0 _ rfl
      have g1 := hg 1 _ rfl
      have g2 := hg 2 _ rfl
      change DataW.trod enc Tryd.prog W 0 (fun _ => true) true n2 3 ((([c0, c1, c2] : List Value).drop 0).take (Tryd.prog.cellsOf 3)) = some y0 at g0
      change DataW.trod enc Tryd.prog W 0 (fun _ => true) true n2 3 ((([c0, c1, c2] : List Value).drop 1).take (Tryd.prog.cellsOf 3)) = some y1 at g1
      change DataW.trod enc Tryd.prog W 0 (fun _ => true) true n2 22 ((([c0, c1, c2] : List Value).drop 2).take (Tryd.prog.cellsOf 22)) = some y2 at g2
      rw [k1] at g0 g1
      rw [k2] at g2
      obtain ⟨i0, e0, _, w0⟩ := DataW.trod_int Tryd.underlying3 g0
      obtain ⟨i1, e1, _, w1⟩ := DataW.trod_int Tryd.underlying3 g1
      obtain ⟨A2, l2, c2', zs, e2, hz⟩ := arg_ints hsz2 (j := 2) rfl rfl g2
      simp at e0 e1
      subst e0 e1 e2
      have h0 := hat 0 (by omega)
      have h1 := hat 1 (by omega)
      have h2 := hat 2 (by omega)
      rw [add_of_add] at h0 h1 h2
      have hb := block_lt_of_cell h0
      rw [block_of_add] at hb
      refine ⟨⟨i0, i1, zs⟩, hb, A2, l2, c2', h0, h1, h2, hz.len, ?_, hz.i64, hz.sl, i64_of_wf w0, i64_of_wf w1⟩
      have := hz.reach
      have := hz.cap
      omega
    have hex : ∃ os : List OpI, os.length = len ∧ ∀ k (hk : k < os.length), a.block < W.heap.size ∧ OpAt W W.heap.size a k os[k] := by
      have := hel
      clear hi hd hx hmx
      have key : ∀ n, n ≤ len → ∃ os : List OpI, os.length = n ∧ ∀ k (hk : k < os.length), a.block < W.heap.size ∧ OpAt W W.heap.size a k os[k] := fun n => by
        induction n with
        | zero => exact fun _ => ⟨[], rfl, fun k hk => by simp at hk⟩
        | succ n ih =>
          intro hn
          obtain ⟨os, h1, h2⟩ := ih (by omega)
          obtain ⟨o, ho⟩ := hel n (by omega)
          refine ⟨os ++ [o], by simp [h1], fun k hk => ?_⟩
          by_cases e : k < os.length
          · rw [List.getElem_append_left e]
            exact h2 k e
          · have ek : k = n := by simp at hk; omega
            subst ek
            rw [List.getElem_append_right (by omega)]
            simp only [h1, Nat.sub_self, List.getElem_singleton]
            exact ho
      exact key len (Nat.le_refl _)
    obtain ⟨os, h1, h2⟩ := hex
    exact ⟨some a, len, m, os, rfl, h1, hl, hmx, fun k hk => ⟨a, rfl, h2 k hk⟩⟩
end Go.Proofs.YtijhajkakmohnaaDoor
