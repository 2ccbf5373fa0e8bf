/- The walk of poly.Mul. -/
import Derived.Test.YtiohededmcfhjaaDoorTrim
import Derived.Test.YtiohededmcfhjaaDoorPm
import Derived.Test.YtiohededmcfhjaaDoorRound
import Derived.IntWalk
set_option linter.unusedVariables false
namespace Go.Proofs.YtiohededmcfhjaaDoor
open Go.RowKit Zp

/-- one's own slice of elements, its block known -/
def OwnE {p : Nat} (wr : World) (base g n : Nat) (L : List (Fin p)) : Prop := L.length = n ∧ Own wr base (.slice (some ⟨g, 0, none⟩) n n) (fvs L)
theorem OwnE.at_ {p : Nat} [NeZero p] {wr : World} {base g n : Nat} {L : List (Fin p)} (h : OwnE wr base g n L) (j : Nat) (hj : j < n) : wr.cell? ⟨g, j, none⟩ = some (vi (fv (co L j))) := by
  have hl := h.1
  have := Own.at_ h.2 (by simp [hl]) j (by simp [hl]; omega)
  rw [this, co_of_lt (by omega), List.getElem_map]
theorem OwnE.frozen {p : Nat} {wr : World} {base g n : Nat} {L : List (Fin p)} (h : OwnE wr base g n L) (j : Nat) : wr.frozen? ⟨g, j, none⟩ = false := Own.frozen_ h.2 (by simp [h.1]) j
theorem OwnE.store {p : Nat} {wr : World} {base g n : Nat} {L : List (Fin p)} (h : OwnE wr base g n L) (j : Nat) (x : Fin p) : OwnE (wr.setCell ⟨g, j, none⟩ (vi (fv x))) base g n (L.set j x) := by
  refine ⟨by simp [h.1], ?_⟩
  have := Own.store h.2 (by simp [h.1]) j (fv x)
  rwa [← List.map_set] at this
theorem OwnE.made {p : Nat} [NeZero p] (w : World) (base n : Nat) (hb : base ≤ w.heap.size) (hc : n * 8 ≤ 281474976710656) : OwnE (p := p) (w.alloc (.cells (zeros n) 3)) base w.heap.size n (List.replicate n 0) := by
  refine ⟨by simp, ?_⟩
  have := own_made w base n hb hc
  rwa [show List.replicate n (0 : Int) = fvs (List.replicate n (0 : Fin p)) from by simp [fv_zero]] at this
theorem OwnE.lt {p : Nat} {wr : World} {base g n : Nat} {L : List (Fin p)} (h : OwnE wr base g n L) : base ≤ g ∧ g < wr.heap.size := h.2.lt g rfl
theorem OwnE.sl {p : Nat} {wr : World} {base g n : Nat} {L : List (Fin p)} (h : OwnE wr base g n L) : SL wr (some ⟨g, 0, none⟩) (fvs L) := by
  obtain ⟨A, c, h1, h2⟩ := h.2.len
  injection h1 with h1 _ _
  rw [h1]; exact h2
theorem co_set {p : Nat} [NeZero p] (L : List (Fin p)) (j : Nat) (x : Fin p) (hj : j < L.length) (m : Nat) : co (L.set j x) m = if m = j then x else co L m := by
  unfold co
  rw [List.getElem?_set]
  by_cases h : m = j
  · subst h; rw [if_pos rfl, if_pos rfl, if_pos hj]; rfl
  · rw [if_neg (fun e => h e.symm), if_neg h]
theorem co_replicate {p : Nat} [NeZero p] (n m : Nat) : co (List.replicate n (0 : Fin p)) m = 0 := by
  unfold co
  rw [List.getElem?_replicate]
  split <;> rfl

theorem i64_fvs {p : Nat} (L : List (Fin p)) (hp2 : p ≤ 2147483647) : ∀ n ∈ fvs L, I64 n := by
  intro n hn
  obtain ⟨x, _, rfl⟩ := List.mem_map.1 hn
  exact i64_fv x hp2

theorem mac_fv {p : Nat} (o x y : Fin p) : (fv o + fv x * fv y) % (p : Int) = fv (o + x * y) := by
  rw [fv_add, fv_mul, Int.add_emod_emod]

def MulOut {p : Nat} [NeZero p] (a b : List (Fin p)) (w : World) (n g : Nat) (i : Value) (wr : World) : Prop := ∃ (k : Nat) (L : List (Fin p)), k ≤ a.length ∧ i = vi k ∧ OwnE wr w.heap.size g n L ∧ (∀ m, co L m = co (mulL (a.take k) b) m) ∧ Below w.heap.size w wr
def MulIn {p : Nat} [NeZero p] (a b : List (Fin p)) (w : World) (n g i : Nat) (j : Value) (wr : World) : Prop := ∃ (k : Nat) (L : List (Fin p)), k ≤ b.length ∧ j = vi k ∧ OwnE wr w.heap.size g n L ∧ (∀ m, co L m = co (mulL (a.take i) b) m + if i ≤ m ∧ m < i + k then co a i * co b (m - i) else 0) ∧ Below w.heap.size w wr

theorem mulIn_step {p : Nat} [NeZero p] {a b L : List (Fin p)} {i k : Nat} (h : ∀ m, co L m = co (mulL (a.take i) b) m + if i ≤ m ∧ m < i + k then co a i * co b (m - i) else 0) (hl : i + k < L.length) :
    ∀ m, co (L.set (i + k) (co L (i + k) + co a i * co b k)) m = co (mulL (a.take i) b) m + if i ≤ m ∧ m < i + (k + 1) then co a i * co b (m - i) else 0 := by
  intro m
  rw [co_set _ _ _ hl]
  by_cases hm : m = i + k
  · subst hm
    rw [if_pos rfl, h, if_neg (by omega), if_pos ⟨by omega, by omega⟩, show i + k - i = k from by omega]
    grind
  · rw [if_neg hm, h]
    by_cases h1 : i ≤ m ∧ m < i + k
    · rw [if_pos h1, if_pos ⟨h1.1, by omega⟩]
    · rw [if_neg h1, if_neg (by omega)]
theorem mulIn_done {p : Nat} [NeZero p] {a b L : List (Fin p)} {i : Nat} (hi : i < a.length) (h : ∀ m, co L m = co (mulL (a.take i) b) m + if i ≤ m ∧ m < i + b.length then co a i * co b (m - i) else 0) :
    ∀ m, co L m = co (mulL (a.take (i + 1)) b) m := by
  intro m
  rw [List.take_succ_eq_append_getElem hi, co_mulL_snoc, h, List.length_take, Nat.min_eq_left (by omega), ← co_of_lt hi]
  congr 1
  by_cases h1 : i ≤ m
  · rw [if_pos h1]
    by_cases h2 : m < i + b.length
    · rw [if_pos ⟨h1, h2⟩]
    · rw [if_neg (by omega), co_of_ge (l := b) (by omega)]; grind
  · rw [if_neg h1, if_neg (by omega)]

set_option maxRecDepth 100000 in
set_option maxHeartbeats 4000000 in
theorem pmul_any (p : Nat) [NeZero p] (hp2 : p ≤ 2147483647) (b : Nat) (A B : Option Addr) (ca cb : Nat) (xs ys : List Int) (hxs : ∀ n ∈ xs, I64 n) (hys : ∀ n ∈ ys, I64 n) (hrx : xs.length * 8 ≤ 140737488351232) (hry : ys.length * 8 ≤ 140737488351232) (hcx : xs.length ≤ ca) (hcy : ys.length ≤ cb)
    (w : World) (hc : w.cell? ⟨b, 0, none⟩ = some (vi p)) (hsx : SL w A xs) (hsy : SL w B ys) :
    Calls Tryd.prog 41 #[.pointer (some ⟨b, 0, none⟩), .slice A xs.length ca, .slice B ys.length cb] w fun e w' => Made (fvs (trimL (mulL (els p xs) (els p ys)))) w e w' := by
  have hbl : b < w.heap.size := block_lt_of_cell hc
  have h1 := trim_any p hp2 b A ca xs hxs (by omega) hcx w hc hsx
  obtain ⟨R, hR⟩ : ∃ R, R = fvs (trimL (mulL (els p xs) (els p ys))) := ⟨_, rfl⟩
  rw [← hR]
  have HR := Lib.hid hR
  clear hR
  go_enter Tryd.func41, Tryd.ntmps41
  go_wp2_with fail
  refine (h1).mono ?_
  rintro e w1 ⟨v1, rfl, hown1, hb1⟩
  have hcr1 := (hb1.cell (p := ⟨b, 0, none⟩) hbl).trans hc
  have h2 := trim_any p hp2 b B cb ys hys (by omega) hcy w1 hcr1 (hsy.below hb1)
  go_wp2_with fail
  refine (h2).mono ?_
  rintro e w2 ⟨v2, rfl, hown2, hb2⟩
  have hown1' := (hown1.below hb2)
  have hb := hb1.trans (hb2.mono hb1.size)
  have hcr := (hb.cell (p := ⟨b, 0, none⟩) hbl).trans hc
  have hbl2 : b < w2.heap.size := block_lt_of_cell hcr
  obtain ⟨a, ha⟩ : ∃ a, a = trimL (els p xs) := ⟨_, rfl⟩
  obtain ⟨b', hb'⟩ : ∃ b', b' = trimL (els p ys) := ⟨_, rfl⟩
  have hla : a.length ≤ xs.length := by rw [ha]; have := trimL_length_le (els p xs); simpa using this
  have hlb : b'.length ≤ ys.length := by rw [hb']; have := trimL_length_le (els p ys); simpa using this
  have hres : trimL (mulL (els p xs) (els p ys)) = trimL (mulL a b') := trimL_congr (fun m => co_mulL_congr (fun i => by rw [ha, co_trim]) (fun i => by rw [hb', co_trim]) m)
  rw [← ha] at hown1'
  rw [← hb'] at hown2
  have HRES := Lib.hid hres
  have hown2' := hown2.more hb1.size
  clear ha hb' hres hown1 hown2 h1 h2 hcr1
  have hla1 : (fvs a).length = a.length := by simp
  have hlb1 : (fvs b').length = b'.length := by simp
  obtain ⟨na, hna⟩ : ∃ na, na = a.length := ⟨_, rfl⟩
  obtain ⟨nb, hnb⟩ : ∃ nb, nb = b'.length := ⟨_, rfl⟩
  rw [← hna] at hla hla1
  rw [← hnb] at hlb hlb1
  have HNA := Lib.hid hna
  have HNB := Lib.hid hnb
  clear hna hnb
  have hs1 : ∃ A c, v1 = .slice A na c := by
    obtain ⟨A, c, h, _⟩ := hown1'.len
    exact ⟨A, c, by rw [h, hla1]⟩
  have hs2 : ∃ A c, v2 = .slice A nb c := by
    obtain ⟨A, c, h, _⟩ := hown2'.len
    exact ⟨A, c, by rw [h, hlb1]⟩
  obtain ⟨A1, c1, rfl⟩ := hs1
  obtain ⟨A2, c2, rfl⟩ := hs2
  by_cases ha0 : na = 0
  · have hz : a = [] := List.length_eq_zero_iff.1 (by rw [← HNA.out, ha0])
    have t1 : ((na : Int) == 0) = true := by rw [ha0]; rfl
    have H1 := Lib.hid hla1
    have H2 := Lib.hid hlb1
    have HA0 := Lib.hid ha0
    have HZ := Lib.hid hz
    clear hla1 hlb1 ha0 hz
    go_wp2
    go_ret
    exact ⟨_, rfl, by rw [HR.out, HRES.out, HZ.out]; exact World.ownsRow_nil _ _ _ _, hb⟩
  · by_cases hb0 : nb = 0
    · have hz : b' = [] := List.length_eq_zero_iff.1 (by rw [← HNB.out, hb0])
      have t1 : ((na : Int) == 0) = false := by rw [beq_eq_false_iff_ne]; omega
      have t2 : ((nb : Int) == 0) = true := by rw [hb0]; rfl
      have hzm : trimL (mulL a b') = [] := by
        have : ∀ m, co (mulL a b') m = co ([] : List (Fin p)) m := fun m => by rw [co_nil, co_mulL_zero_right (fun i => by rw [hz, co_nil])]
        rw [trimL_congr this]; rfl
      have H1 := Lib.hid hla1
      have H2 := Lib.hid hlb1
      have HB0 := Lib.hid hb0
      have HZ := Lib.hid hz
      have HZM := Lib.hid hzm
      clear hla1 hlb1 hb0 hz hzm
      go_wp2
      go_ret
      exact ⟨_, rfl, by rw [HR.out, HRES.out, HZM.out]; exact World.ownsRow_nil _ _ _ _, hb⟩
    · obtain ⟨g1, c1', e1, hg1, hg1'⟩ := hown1'.block (by rw [hla1]; omega)
      obtain ⟨g2, c2', e2, hg2, hg2'⟩ := hown2'.block (by rw [hlb1]; omega)
      injection e1 with e1 e1b e1c
      injection e2 with e2 e2b e2c
      subst e1 e2
      clear e1b e1c e2b e2c
      have t1 : ((na : Int) == 0) = false := by rw [beq_eq_false_iff_ne]; omega
      have t2 : ((nb : Int) == 0) = false := by rw [beq_eq_false_iff_ne]; omega
      obtain ⟨n, hn⟩ : ∃ n, n = na + nb - 1 := ⟨_, rfl⟩
      have hn1 : n * 8 ≤ 281474976710656 := by omega
      have hmk := make_ints n n (Nat.le_refl _) hn1
      have en : (n : Int) = (na : Int) + nb - 1 := by omega
      rw [en] at hmk
      have HN := Lib.hid hn
      have H1 := Lib.hid hla1
      have H2 := Lib.hid hlb1
      clear hla1 hlb1 hn en
      have hOE := OwnE.made (p := p) w2 w.heap.size n hb.size hn1
      go_wp2
      go_loopw [35] (fun i wr => MulOut a b' w n w2.heap.size i wr ∧ Below w2.heap.size w2 wr) (fun i _ => na - (intOf i).toNat)
      case atStart => exact ⟨⟨0, _, Nat.zero_le _, rfl, hOE, fun m => by rw [co_replicate, List.take_zero, mulL, co_nil], hb.alloc hb.size _⟩, (Below.refl _ _).alloc (Nat.le_refl _) _⟩
      case round =>
        obtain ⟨⟨i, L, hi, rfl, hoe, hco, hbw⟩, hb2⟩ := hrel
        rw [← HNA.out] at hi
        have HCO := Lib.hid hco
        clear hco
        obtain ⟨W0, hW0⟩ : ∃ W0 : World, W0 = wr := ⟨_, rfl⟩
        subst hW0
        by_cases hlt : i < na
        · have hc1 := (hown1'.below hb2).at_ H1.out.symm i (by rw [H1.out]; exact hlt)
          have e1 : (fvs a)[i]'(by rw [H1.out]; exact hlt) = fv (co a i) := by rw [co_of_lt (by rw [← HNA.out]; exact hlt)]; simp
          rw [e1] at hc1
          have i1 : (0 : Int) ≤ i := by omega
          have i2 : (i : Int) < na := by omega
          obtain ⟨x, hx⟩ : ∃ x, x = co a i := ⟨_, rfl⟩
          rw [← hx] at hc1
          have HX := Lib.hid hx
          clear e1 hx
          go_wp2
          go_loopw [42] (fun j wr => MulIn a b' w n w2.heap.size i j wr ∧ Below w2.heap.size w2 wr) (fun j _ => nb - (intOf j).toNat)
          case atStart => exact ⟨⟨0, L, Nat.zero_le _, rfl, hoe, fun m => by rw [if_neg (by omega), HCO.out, Fin.add_zero], hbw⟩, hb2⟩
          case round =>
            obtain ⟨⟨k, M, hk, rfl, hoe', hco', hbw'⟩, hb2'⟩ := hrel
            rw [← HNB.out] at hk
            by_cases hlk : k < nb
            · have hc2 := (hown2'.below hb2').at_ H2.out.symm k (by rw [H2.out]; exact hlk)
              have e2 : (fvs b')[k]'(by rw [H2.out]; exact hlk) = fv (co b' k) := by rw [co_of_lt (by rw [← HNB.out]; exact hlk)]; simp
              rw [e2] at hc2
              have hikn : i + k < n := by rw [HN.out]; omega
              have hco := hoe'.at_ (i + k) hikn
              have hfo := hoe'.frozen (i + k)
              have hcp : wr.cell? ⟨b, 0, none⟩ = some (vi p) := (hb2'.cell (p := ⟨b, 0, none⟩) hbl2).trans hcr
              obtain ⟨o, ho⟩ : ∃ o, o = co M (i + k) := ⟨_, rfl⟩
              rw [← ho] at hco
              have hst := hoe'.store (i + k) (o + co a i * co b' k)
              have hci := mulIn_step hco' (by rw [hoe'.1]; exact hikn)
              rw [← ho] at hci
              obtain ⟨y, hy⟩ : ∃ y, y = co b' k := ⟨_, rfl⟩
              rw [← HX.out] at hst
              rw [← hy] at hc2 hst
              have HCI := Lib.hid hci
              have HY := Lib.hid hy
              have HO := Lib.hid ho
              have HCO' := Lib.hid hco'
              clear hci hy ho hco' e2
              have i3 : (0 : Int) ≤ k := by omega
              have i4 : (k : Int) < nb := by omega
              have i5 : (0 : Int) ≤ (i : Int) + k := by omega
              have i6 : (i : Int) + k < n := by omega
              have i7 : ((i : Int) + k).toNat = i + k := by omega
              have i8 : IntKind.i64.wrap ((i : Int) + k) = (i : Int) + k := IntWalk.i64_in _ (by omega)
              obtain ⟨m1, m2⟩ := mul_bd x y hp2
              have o1 := fv_nonneg o
              have o2 := fv_lt o
              have hp0 : (0 : Int) < p := by have := ppos (p := p); omega
              have i9 : 0 ≤ fv o + fv x * fv y := by omega
              have hpn : ¬ p = 0 := by have := ppos (p := p); omega
              have i12 : (fv o + fv x * fv y).tmod p = fv (o + x * y) := by rw [← mac_fv, Int.tmod_eq_emod_of_nonneg i9]
              have i10 : IntKind.i64.wrap (fv x * fv y) = fv x * fv y := IntWalk.i64_in _ (by omega)
              have i11 : IntKind.i64.wrap (fv o + fv x * fv y) = fv o + fv x * fv y := IntWalk.i64_in _ (by omega)
              have hmx : Tryd.prog.follows .mixedOrders = true := by kernel_rfl
              go_wp2
              refine wp_region_quiet_tail 18 hmx (by kernel_rfl) ?_
              simp only [List.take_succ_cons, List.take_zero, List.drop_succ_cons, List.drop_zero]
              repeat (quiet_step ((go_at_call 54; exact quiet_eq (p_any p b _ (by exact hcp)))))
              refine wpQuiet_nil ?_
              intro _ hw'
              obtain ⟨nq, hw''⟩ := hw'
              subst hw''
              clear i5 i6 i7 i8 i9 i10 i11 i12 m1 m2 o1 o2
              go_wp2
              go_roundw
              case rel =>
                refine ⟨⟨k + 1, _, by rw [← HNB.out]; omega, by go_num, ?_, HCI.out, (below_drewN hbw' nq).setCell (by simp; have := hb.size; omega) _⟩, (below_drewN hb2' nq).setCell (by simp) _⟩
                have h1 : OwnE (wr.drewN nq) w.heap.size w2.heap.size n M := hoe'
                have h2 := h1.store (i + k) (o + x * y)
                rw [← HX.out, ← HY.out]
                exact h2
              case measure => simp [intOf]; omega
            · obtain rfl : k = nb := by omega
              have hd := mulIn_done (by rw [← HNA.out]; exact hlt) (by rw [← HNB.out]; exact hco')
              have HD := Lib.hid hd
              clear hd hco'
              go_wp2
              go_roundw
              case rel => exact ⟨⟨i + 1, M, by rw [← HNA.out]; omega, by go_num, hoe', HD.out, hbw'⟩, hb2'⟩
              case measure => simp [intOf]; omega
        · obtain rfl : i = na := by omega
          have hcp : W0.cell? ⟨b, 0, none⟩ = some (vi p) := (hb2.cell (p := ⟨b, 0, none⟩) hbl2).trans hcr
          have hLn : (fvs L).length = n := by simp [hoe.1]
          have ht := trim_any p hp2 b (some ⟨w2.heap.size, 0, none⟩) n (fvs L) (i64_fvs L hp2) (by rw [hLn]; exact hn1) (by rw [hLn]; exact Nat.le_refl _) W0 hcp hoe.sl
          rw [hLn, els_fvs] at ht
          have HT := Lib.hid ht
          clear ht hLn
          go_wp2_with fail
          refine (HT.out).mono ?_
          rintro e w4 ⟨v4, rfl, hown4, hb4⟩
          go_wp2
          go_ret
          refine ⟨v4, rfl, ?_, hbw.trans (hb4.mono hbw.size)⟩
          rw [HR.out, HRES.out, ← trimL_congr (l := L) (fun m => by rw [HCO.out, List.take_of_length_le (by rw [← HNA.out]; exact Nat.le_refl _)])]
          exact hown4.more hbw.size
end Go.Proofs.YtiohededmcfhjaaDoor
