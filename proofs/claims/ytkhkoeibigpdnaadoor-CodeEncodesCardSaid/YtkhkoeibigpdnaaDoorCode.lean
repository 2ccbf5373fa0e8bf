/- Walks: code.may, Encode, Distance. -/
import Derived.Test.YtkhkoeibigpdnaaDoorVals
import Derived.Test.YtkhkoeibigpdnaaDoorCd
set_option linter.unusedVariables false
namespace Go.Proofs.YtkhkoeibigpdnaaDoor
open Go.RowKit Zp

/-- may k be? A Bool behind a name -/
def mayB (n : Nat) (k : Int) : Bool := decide (1 ≤ k ∧ k ≤ n)
theorem mayB_true {n : Nat} {k : Int} (h : 1 ≤ k ∧ k ≤ n) : mayB n k = true := decide_eq_true h
theorem mayB_false {n : Nat} {k : Int} (h : ¬ (1 ≤ k ∧ k ≤ n)) : mayB n k = false := decide_eq_false h
theorem may_any (D n : Nat) (k : Int) (w : World) (hc : w.cell? ⟨D, 1, none⟩ = some (vi n)) :
    Calls Tryd.prog 80 #[.pointer (some ⟨D, 0, none⟩), vi k] w fun e w' => e = .returned (.bool (mayB n k)) ∧ w = w' := by
  by_cases h1 : 1 ≤ k
  · by_cases h2 : k ≤ n
    · have h := mayB_true ⟨h1, h2⟩
      have H := Lib.hid h
      clear h
      go_enter Tryd.func80, Tryd.ntmps80
      go_wp2_with (go_at_call 22; refine (size_any D n _ hc).mono ?_; rintro e w' ⟨rfl, rfl⟩)
      go_ret
      exact ⟨ret_bool H.out.symm, rfl⟩
    · have t2 : decide (k ≤ (n : Int)) = false := by simpa using h2
      have h := mayB_false (n := n) (k := k) (fun h => h2 h.2)
      have H := Lib.hid h
      clear h
      go_enter Tryd.func80, Tryd.ntmps80
      go_wp2_with (go_at_call 22; refine (size_any D n _ hc).mono ?_; rintro e w' ⟨rfl, rfl⟩)
      go_ret
      exact ⟨ret_bool H.out.symm, rfl⟩
  · have t1 : decide (1 ≤ k) = false := by simpa using h1
    have h := mayB_false (n := n) (k := k) (fun h => h1 h.1)
    have H := Lib.hid h
    clear h
    go_enter Tryd.func80, Tryd.ntmps80
    go_wp2
    go_ret
    exact ⟨ret_bool H.out.symm, rfl⟩

abbrev NoWord (k : Int) : Ending := .returned (.tuple #[.slice none 0 0, .iface 107 (.int .i64 k)])
theorem encode_range (D n : Nat) (k : Int) (h : ¬ (1 ≤ k ∧ k ≤ n)) (v : Value) (w : World) (hc : w.cell? ⟨D, 1, none⟩ = some (vi n)) :
    Calls Tryd.prog 35 #[.pointer (some ⟨D, 0, none⟩), vi k, v] w fun e w' => e = NoWord 3 ∧ w = w' := by
  have hm := may_any D n k w hc
  rw [mayB_false h] at hm
  have HM := Lib.hid hm
  clear hm h
  go_enter Tryd.func35, Tryd.ntmps35
  go_wp2_with fail
  refine (HM.out).mono ?_
  rintro e w' ⟨rfl, rfl⟩
  go_wp2
  go_ret2
  exact ⟨rfl, rfl⟩

theorem encode_size (p S D b : Nat) [NeZero p] (n : Nat) (s : Fin p) (k : Int) (h : 1 ≤ k ∧ k ≤ n) (A : Option Addr) (m cap : Nat) (xs : List Int) (hml : xs.length = m) (hxs : ∀ x ∈ xs, I64 x) (hreach : m * 8 ≤ 281474976710656) (w : World) (hD : Dom w S D b p n s) (hs : SL w A xs) (hd : k ≤ degL (els p xs)) :
    Calls Tryd.prog 35 #[.pointer (some ⟨D, 0, none⟩), vi k, .slice A m cap] w fun e w' => e = NoWord 2 ∧ w = w' := by
  have hm := may_any D n k w hD.c1
  rw [mayB_true h] at hm
  have HM := Lib.hid hm
  subst hml
  have hdg := degree_any p hD.fld.max b A cap xs hxs hreach w hD.fld.c0 hs
  obtain ⟨d, hdd⟩ : ∃ d, d = degL (els p xs) := ⟨_, rfl⟩
  rw [← hdd] at hd hdg
  have HDG := Lib.hid hdg
  have hc0 := hD.c0
  clear hm h hdd hdg
  go_enter Tryd.func35, Tryd.ntmps35
  go_wp2_with fail
  refine (HM.out).mono ?_
  rintro e w' ⟨rfl, rfl⟩
  go_wp2_with fail
  refine (dfield_any D b _ hc0).mono ?_
  rintro e w' ⟨rfl, rfl⟩
  go_wp2_with fail
  refine (HDG.out).mono ?_
  rintro e w' ⟨rfl, rfl⟩
  go_wp2
  go_ret2
  exact ⟨rfl, rfl⟩

/-- a word of n elements, and no error -/
def Word (n : Nat) (xs : List Int) (w : World) (e : Ending) (w' : World) : Prop := ∃ A c, xs.length = n ∧ e = .returned (.tuple #[.slice A n c, .nilIface]) ∧ n ≤ c ∧ c ≤ maxLen ∧ SL w' A xs ∧ Below w.heap.size w w'
theorem encode_any (p S D b : Nat) [NeZero p] (n : Nat) (s : Fin p) (k : Int) (h : 1 ≤ k ∧ k ≤ n) (A : Option Addr) (m cap : Nat) (xs : List Int) (hml : xs.length = m) (hxs : ∀ x ∈ xs, I64 x) (hreach : m * 8 ≤ 281474976710656) (w : World) (hD : Dom w S D b p n s) (hs : SL w A xs) (hd : degL (els p xs) < k) :
    Calls Tryd.prog 35 #[.pointer (some ⟨D, 0, none⟩), vi k, .slice A m cap] w fun e w' => Word n (fvs (valL s (rootI p n) n (els p xs))) w e w' := by
  have hm := may_any D n k w hD.c1
  rw [mayB_true h] at hm
  have HM := Lib.hid hm
  have hv := values_n p S D b n s A m cap xs hml hxs hreach w hD hs
  have HV := Lib.hid hv
  have hdg := degree_any p hD.fld.max b A cap xs hxs (by rw [hml]; exact hreach) w hD.fld.c0 hs
  rw [hml] at hdg
  obtain ⟨d, hdd⟩ : ∃ d, d = degL (els p xs) := ⟨_, rfl⟩
  rw [← hdd] at hd hdg
  have HDG := Lib.hid hdg
  have hc0 := hD.c0
  clear hm h hdd hdg hv hml
  go_enter Tryd.func35, Tryd.ntmps35
  go_wp2_with fail
  refine (HM.out).mono ?_
  rintro e w' ⟨rfl, rfl⟩
  go_wp2_with fail
  refine (dfield_any D b _ hc0).mono ?_
  rintro e w' ⟨rfl, rfl⟩
  go_wp2_with fail
  refine (HDG.out).mono ?_
  rintro e w' ⟨rfl, rfl⟩
  go_wp2_with fail
  refine (HV.out).mono ?_
  rintro e w1 ⟨A1, c1, h1, rfl, h2, h3, h4, h5⟩
  go_wp2
  go_ret2
  exact ⟨A1, c1, h1, rfl, h2, h3, h4, h5⟩
/-- whatever Encode answers -/
def EncOut (p n : Nat) [NeZero p] (s : Fin p) (k : Int) (xs : List Int) (w : World) (e : Ending) (w' : World) : Prop :=
  (¬ ((1 ≤ k ∧ k ≤ n) ∧ degL (els p xs) < k) ∧ (e = NoWord 3 ∨ e = NoWord 2) ∧ w = w') ∨ (((1 ≤ k ∧ k ≤ n) ∧ degL (els p xs) < k) ∧ Word n (fvs (valL s (rootI p n) n (els p xs))) w e w')
theorem encode_all (p S D b : Nat) [NeZero p] (n : Nat) (s : Fin p) (k : Int) (A : Option Addr) (m cap : Nat) (xs : List Int) (hml : xs.length = m) (hxs : ∀ x ∈ xs, I64 x) (hreach : m * 8 ≤ 281474976710656) (w : World) (hD : Dom w S D b p n s) (hs : SL w A xs) :
    Calls Tryd.prog 35 #[.pointer (some ⟨D, 0, none⟩), vi k, .slice A m cap] w fun e w' => EncOut p n s k xs w e w' := by
  by_cases h1 : 1 ≤ k ∧ k ≤ n
  · by_cases h2 : degL (els p xs) < k
    · exact (encode_any p S D b n s k h1 A m cap xs hml hxs hreach w hD hs h2).mono fun e w' h => .inr ⟨⟨h1, h2⟩, h⟩
    · exact (encode_size p S D b n s k h1 A m cap xs hml hxs hreach w hD hs (by omega)).mono fun e w' ⟨h, h'⟩ => .inl ⟨fun h => h2 h.2, .inr h, h'⟩
  · exact (encode_range D n k h1 _ w hD.c1).mono fun e w' ⟨h, h'⟩ => .inl ⟨fun h => h1 h.1, .inl h, h'⟩

theorem of_elq (p : Nat) [NeZero p] (hp2 : p ≤ 2147483647) (b : Nat) (n : Int) (hn : I64 n) (w : World) (hc : w.cell? ⟨b, 0, none⟩ = some (vi p)) :
    Calls Tryd.prog 63 #[.pointer (some ⟨b, 0, none⟩), vi n] w fun e w' => e = .returned (vi (fv (el p n))) ∧ w = w' :=
  (of_el p hp2 b n hn w hc).mono fun _ _ h => ⟨h.1, h.2.symm⟩
/-- at how many places two lists differ -/
def distI (p : Nat) [NeZero p] (xs ys : List Int) : Nat := max xs.length ys.length - min xs.length ys.length + diffN (min xs.length ys.length) (co (els p xs)) (co (els p ys))
def DistRel (p : Nat) [NeZero p] (xs ys : List Int) (d n : Nat) (w : World) (v i : Value) (wr : World) : Prop := ∃ k j : Nat, k ≤ n ∧ i = vi k ∧ v = vi ((d + diffN k (co (els p xs)) (co (els p ys)) : Nat) : Int) ∧ wr = w.drewN j

set_option maxRecDepth 100000 in
set_option maxHeartbeats 1000000 in
theorem distance_any (p : Nat) [NeZero p] (hp2 : p ≤ 2147483647) (b : Nat) (A B : Option Addr) (na ca nb cb : Nat) (xs ys : List Int) (hna : xs.length = na) (hnb : ys.length = nb) (hxs : ∀ n ∈ xs, I64 n) (hys : ∀ n ∈ ys, I64 n) (hrx : na * 8 ≤ 281474976710656) (hry : nb * 8 ≤ 281474976710656)
    (w : World) (hc : w.cell? ⟨b, 0, none⟩ = some (vi p)) (hsx : SL w A xs) (hsy : SL w B ys) :
    Calls Tryd.prog 16 #[.pointer (some ⟨b, 0, none⟩), .slice A na ca, .slice B nb cb] w fun e w' => e = .returned (vi (distI p xs ys : Nat)) ∧ ∃ k, w' = w.drewN k := by
  obtain ⟨D, hD⟩ : ∃ D, D = distI p xs ys := ⟨_, rfl⟩
  rw [← hD]
  unfold distI at hD
  rw [hna, hnb] at hD
  have HD := Lib.hid hD
  have HNA := Lib.hid hna
  have HNB := Lib.hid hnb
  clear hD hna hnb
  have hcase : na < nb ∨ nb < na ∨ na = nb := by omega
  rcases hcase with hlt | hlt | heq
  · obtain ⟨d, hd⟩ : ∃ d, d = nb - na := ⟨_, rfl⟩
    obtain ⟨n, hn⟩ : ∃ n, n = na := ⟨_, rfl⟩
    have hD2 : D = d + diffN n (co (els p xs)) (co (els p ys)) := by rw [HD.out, hd, hn, Nat.max_eq_right (by omega), Nat.min_eq_left (by omega)]
    have hdI : (d : Int) = (nb : Int) - na := by omega
    obtain rfl : n = na := hn
    have HD2 := Lib.hid hD2
    have HDI := Lib.hid hdI
    have hd9 : d * 8 ≤ 281474976710656 := by omega
    clear hD2 hd hdI
    go_enter Tryd.func16, Tryd.ntmps16
    go_wp2
    go_loopw [7, 25] (fun v i wr => DistRel p xs ys d n w v i wr) (fun _ i _ => n - (intOf i).toNat)
    case atStart => exact ⟨0, 0, Nat.zero_le _, rfl, by rw [← HDI.out]; rfl, rfl⟩
    case round =>
      obtain ⟨k, j, hk, rfl, rfl, rfl⟩ := hrel
      by_cases hkn : k < n
      · have hkx : k < xs.length := by rw [HNA.out]; omega
        have hky : k < ys.length := by rw [HNB.out]; omega
        obtain ⟨ad, rfl, _, hc1⟩ := (hsx.drewN j).at_ hkx
        obtain ⟨bd, rfl, _, hc2⟩ := (hsy.drewN j).at_ hky
        rw [World.cell?_drewN] at hc1 hc2
        have ix := hxs _ (List.getElem_mem hkx)
        have iy := hys _ (List.getElem_mem hky)
        have hcx : co (els p xs) k = el p xs[k] := by rw [co_of_lt (by simpa using hkx)]; simp
        have hcy : co (els p ys) k = el p ys[k] := by rw [co_of_lt (by simpa using hky)]; simp
        obtain ⟨x, hx⟩ : ∃ x, x = xs[k] := ⟨_, rfl⟩
        obtain ⟨y, hy⟩ : ∃ y, y = ys[k] := ⟨_, rfl⟩
        rw [← hx] at hc1 ix hcx
        rw [← hy] at hc2 iy hcy
        have hds := diffN_succ k (co (els p xs)) (co (els p ys))
        rw [hcx, hcy] at hds
        have hle := diffN_le k (co (els p xs)) (co (els p ys))
        obtain ⟨E, hE⟩ : ∃ E, E = diffN k (co (els p xs)) (co (els p ys)) := ⟨_, rfl⟩
        rw [← hE] at hds hle ⊢
        have i1 : (0 : Int) ≤ k := by omega
        have i2 : (k : Int) < n := by omega
        have i3 : (k : Int) < nb := by omega
        clear hx hy hcx hcy hE
        by_cases hxy : el p x = el p y
        · have t2 : (fv (el p x) != fv (el p y)) = false := by rw [hxy]; simp
          rw [if_pos hxy] at hds
          have HDS := Lib.hid hds
          clear hds hxy
          go_wp2
          go_quiet ((go_at_call 63; exact quiet_eq2 (of_elq p hp2 b _ (by first | exact ix | exact iy) _ (by exact hc))))
          go_wp2
          go_roundw
          case rel => exact ⟨k + 1, _, by omega, by go_num, by rw [HDS.out]; rfl, rfl⟩
          case measure => simp [intOf]; omega
        · have t2 : (fv (el p x) != fv (el p y)) = true := by rw [bne_iff_ne]; exact fun h => hxy (fv_inj h)
          rw [if_neg hxy] at hds
          have HDS := Lib.hid hds
          clear hds hxy
          go_wp2
          go_quiet ((go_at_call 63; exact quiet_eq2 (of_elq p hp2 b _ (by first | exact ix | exact iy) _ (by exact hc))))
          go_wp2
          go_roundw
          case rel => exact ⟨k + 1, _, by omega, by go_num, by rw [HDS.out]; go_num, rfl⟩
          case measure => simp [intOf]; omega
      · obtain rfl : k = n := by omega
        rw [← HD2.out]
        go_wp2
        go_ret
        exact ⟨rfl, _, rfl⟩
  · obtain ⟨d, hd⟩ : ∃ d, d = na - nb := ⟨_, rfl⟩
    obtain ⟨n, hn⟩ : ∃ n, n = nb := ⟨_, rfl⟩
    have hD2 : D = d + diffN n (co (els p xs)) (co (els p ys)) := by rw [HD.out, hd, hn, Nat.max_eq_left (by omega), Nat.min_eq_right (by omega)]
    have hdI : (d : Int) = (na : Int) - nb := by omega
    obtain rfl : n = nb := hn
    have HD2 := Lib.hid hD2
    have HDI := Lib.hid hdI
    have hd9 : d * 8 ≤ 281474976710656 := by omega
    clear hD2 hd hdI
    go_enter Tryd.func16, Tryd.ntmps16
    go_wp2
    go_loopw [7, 25] (fun v i wr => DistRel p xs ys d n w v i wr) (fun _ i _ => n - (intOf i).toNat)
    case atStart => exact ⟨0, 0, Nat.zero_le _, rfl, by rw [← HDI.out]; rfl, rfl⟩
    case round =>
      obtain ⟨k, j, hk, rfl, rfl, rfl⟩ := hrel
      by_cases hkn : k < n
      · have hkx : k < xs.length := by rw [HNA.out]; omega
        have hky : k < ys.length := by rw [HNB.out]; omega
        obtain ⟨ad, rfl, _, hc1⟩ := (hsx.drewN j).at_ hkx
        obtain ⟨bd, rfl, _, hc2⟩ := (hsy.drewN j).at_ hky
        rw [World.cell?_drewN] at hc1 hc2
        have ix := hxs _ (List.getElem_mem hkx)
        have iy := hys _ (List.getElem_mem hky)
        have hcx : co (els p xs) k = el p xs[k] := by rw [co_of_lt (by simpa using hkx)]; simp
        have hcy : co (els p ys) k = el p ys[k] := by rw [co_of_lt (by simpa using hky)]; simp
        obtain ⟨x, hx⟩ : ∃ x, x = xs[k] := ⟨_, rfl⟩
        obtain ⟨y, hy⟩ : ∃ y, y = ys[k] := ⟨_, rfl⟩
        rw [← hx] at hc1 ix hcx
        rw [← hy] at hc2 iy hcy
        have hds := diffN_succ k (co (els p xs)) (co (els p ys))
        rw [hcx, hcy] at hds
        have hle := diffN_le k (co (els p xs)) (co (els p ys))
        obtain ⟨E, hE⟩ : ∃ E, E = diffN k (co (els p xs)) (co (els p ys)) := ⟨_, rfl⟩
        rw [← hE] at hds hle ⊢
        have i1 : (0 : Int) ≤ k := by omega
        have i2 : (k : Int) < n := by omega
        have i3 : (k : Int) < na := by omega
        clear hx hy hcx hcy hE
        by_cases hxy : el p x = el p y
        · have t2 : (fv (el p x) != fv (el p y)) = false := by rw [hxy]; simp
          rw [if_pos hxy] at hds
          have HDS := Lib.hid hds
          clear hds hxy
          go_wp2
          go_quiet ((go_at_call 63; exact quiet_eq2 (of_elq p hp2 b _ (by first | exact ix | exact iy) _ (by exact hc))))
          go_wp2
          go_roundw
          case rel => exact ⟨k + 1, _, by omega, by go_num, by rw [HDS.out]; rfl, rfl⟩
          case measure => simp [intOf]; omega
        · have t2 : (fv (el p x) != fv (el p y)) = true := by rw [bne_iff_ne]; exact fun h => hxy (fv_inj h)
          rw [if_neg hxy] at hds
          have HDS := Lib.hid hds
          clear hds hxy
          go_wp2
          go_quiet ((go_at_call 63; exact quiet_eq2 (of_elq p hp2 b _ (by first | exact ix | exact iy) _ (by exact hc))))
          go_wp2
          go_roundw
          case rel => exact ⟨k + 1, _, by omega, by go_num, by rw [HDS.out]; go_num, rfl⟩
          case measure => simp [intOf]; omega
      · obtain rfl : k = n := by omega
        rw [← HD2.out]
        go_wp2
        go_ret
        exact ⟨rfl, _, rfl⟩
  · obtain rfl : na = nb := heq
    obtain ⟨d, hd⟩ : ∃ d, d = 0 := ⟨_, rfl⟩
    obtain ⟨n, hn⟩ : ∃ n, n = na := ⟨_, rfl⟩
    have hD2 : D = d + diffN n (co (els p xs)) (co (els p ys)) := by rw [HD.out, hd, hn, Nat.max_self, Nat.min_self, Nat.sub_self]
    have hdI : (d : Int) = 0 := by omega
    obtain rfl : n = na := hn
    have HD2 := Lib.hid hD2
    have HDI := Lib.hid hdI
    have hd9 : d * 8 ≤ 281474976710656 := by omega
    clear hD2 hd hdI
    go_enter Tryd.func16, Tryd.ntmps16
    go_wp2
    go_loopw [7, 25] (fun v i wr => DistRel p xs ys d n w v i wr) (fun _ i _ => n - (intOf i).toNat)
    case atStart => exact ⟨0, 0, Nat.zero_le _, rfl, by rw [← HDI.out]; rfl, rfl⟩
    case round =>
      obtain ⟨k, j, hk, rfl, rfl, rfl⟩ := hrel
      by_cases hkn : k < n
      · have hkx : k < xs.length := by rw [HNA.out]; omega
        have hky : k < ys.length := by rw [HNB.out]; omega
        obtain ⟨ad, rfl, _, hc1⟩ := (hsx.drewN j).at_ hkx
        obtain ⟨bd, rfl, _, hc2⟩ := (hsy.drewN j).at_ hky
        rw [World.cell?_drewN] at hc1 hc2
        have ix := hxs _ (List.getElem_mem hkx)
        have iy := hys _ (List.getElem_mem hky)
        have hcx : co (els p xs) k = el p xs[k] := by rw [co_of_lt (by simpa using hkx)]; simp
        have hcy : co (els p ys) k = el p ys[k] := by rw [co_of_lt (by simpa using hky)]; simp
        obtain ⟨x, hx⟩ : ∃ x, x = xs[k] := ⟨_, rfl⟩
        obtain ⟨y, hy⟩ : ∃ y, y = ys[k] := ⟨_, rfl⟩
        rw [← hx] at hc1 ix hcx
        rw [← hy] at hc2 iy hcy
        have hds := diffN_succ k (co (els p xs)) (co (els p ys))
        rw [hcx, hcy] at hds
        have hle := diffN_le k (co (els p xs)) (co (els p ys))
        obtain ⟨E, hE⟩ : ∃ E, E = diffN k (co (els p xs)) (co (els p ys)) := ⟨_, rfl⟩
        rw [← hE] at hds hle ⊢
        have i1 : (0 : Int) ≤ k := by omega
        have i2 : (k : Int) < n := by omega
        clear hx hy hcx hcy hE
        by_cases hxy : el p x = el p y
        · have t2 : (fv (el p x) != fv (el p y)) = false := by rw [hxy]; simp
          rw [if_pos hxy] at hds
          have HDS := Lib.hid hds
          clear hds hxy
          go_wp2
          go_quiet ((go_at_call 63; exact quiet_eq2 (of_elq p hp2 b _ (by first | exact ix | exact iy) _ (by exact hc))))
          go_wp2
          go_roundw
          case rel => exact ⟨k + 1, _, by omega, by go_num, by rw [HDS.out]; rfl, rfl⟩
          case measure => simp [intOf]; omega
        · have t2 : (fv (el p x) != fv (el p y)) = true := by rw [bne_iff_ne]; exact fun h => hxy (fv_inj h)
          rw [if_neg hxy] at hds
          have HDS := Lib.hid hds
          clear hds hxy
          go_wp2
          go_quiet ((go_at_call 63; exact quiet_eq2 (of_elq p hp2 b _ (by first | exact ix | exact iy) _ (by exact hc))))
          go_wp2
          go_roundw
          case rel => exact ⟨k + 1, _, by omega, by go_num, by rw [HDS.out]; go_num, rfl⟩
          case measure => simp [intOf]; omega
      · obtain rfl : k = n := by omega
        rw [← HD2.out]
        go_wp2
        go_ret
        exact ⟨rfl, _, rfl⟩
end Go.Proofs.YtkhkoeibigpdnaaDoor
