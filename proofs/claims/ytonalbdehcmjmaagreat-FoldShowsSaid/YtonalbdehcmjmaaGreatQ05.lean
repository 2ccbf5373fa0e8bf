/- A bundle of texts: Rl, Tr, Sz, Cp, Mp, Gk, Th, Wy, Hd, Wk, Wl, Wm. -/
import Derived.Test.YtonalbdehcmjmaaGreatQ04
import Derived.Deep.RegionHeld3
import Derived.SizedLaws
import Derived.Deep.Matrix
import Derived.Test.YtonalbdehcmjmaaGreatQ03
import Derived.BigQuiet
import Derived.Maps.Own
import Derived.WideKeyEntry
import Derived.DeepKeys4
import Derived.Test.YtonalbdehcmjmaaGreatQ01
import Derived.Test.YtonalbdehcmjmaaGreatQ00
/- Plain and memory: tables Fixed; what a round tells, as lists; rows of one's own. -/
set_option linter.unusedVariables false
namespace Go.Proofs.YtonalbdehcmjmaaGreat
open Go.RowKit Zp


theorem OwnR.below {w w' : World} {base : Nat} {v : Value} {us : List Value} (h : OwnR w base v us) (hb : Below w.heap.size w w') : OwnR w' base v us := by
  rcases h.2 with h0 | ⟨g, cap, cur, e, h1, hg, h2⟩
  · exact ⟨h.1, .inl h0⟩
  · have hlt : g < w.heap.size := (World.ownsRow.lt h g (by rw [e]; rfl)).2
    exact ⟨h.1, .inr ⟨g, cap, cur, e, h1, (hb.block g hlt).trans hg, h2⟩⟩
/-- rows of one's own are made -/
def MadeRows (ls : List (List Int)) (w : World) (e : Ending) (w' : World) : Prop :=
  ∃ v us, e = .returned v ∧ OwnR w' w.heap.size v us ∧ RowsOwn w' w.heap.size us ls ∧ Below w.heap.size w w'
end Go.Proofs.YtonalbdehcmjmaaGreat

/- Walks: tree.root, tree.Root. -/
set_option linter.unusedVariables false
namespace Go.Proofs.YtonalbdehcmjmaaGreat
open Go.RowKit Zp
/-- the rows by their places -/
def rowF (rs : List (List Int)) (i : Nat) : List Int := rs.getD i []
theorem rowF_at {rs : List (List Int)} {i : Nat} (h : i < rs.length) : rowF rs i = rs[i] := by simp [rowF, h]
/-- a digest is handed back, that lies in a block of its own -/
def RootIs (l : List Int) (w : World) (e : Ending) (w' : World) : Prop :=
  ∃ g : Nat, e = .returned (.slice (some ⟨g, 0, none⟩) 4 4) ∧ (∃ cs, Blk w' g 56 cs) ∧ SL w' (some ⟨g, 0, none⟩) l ∧ l.length = 4 ∧ (∀ x ∈ l, I64 x) ∧ w.heap.size ≤ g ∧ Below w.heap.size w w'
theorem HashIs.root {p k : Nat} [NeZero p] (hm : p ≤ 2147483647) {l : List Int} {w w' : World} {e : Ending} (h : HashIs (digE p k l) w e w') : RootIs (digL p k l) w e w' := by
  obtain ⟨g, h1, h2, h3, h4⟩ := h
  exact ⟨g, h1, ⟨_, h2⟩, dig_sl h2, digL_len _ _, i64_digL hm l, h3, h4⟩
theorem RootIs.from {l : List Int} {w0 w w' : World} {e : Ending} (h : RootIs l w e w') (hb : Below w0.heap.size w0 w) : RootIs l w0 e w' := by
  obtain ⟨g, h1, h2, h3, h4, h5, h6, h7⟩ := h
  exact ⟨g, h1, h2, h3, h4, h5, Nat.le_trans hb.size h6, hb.trans (h7.mono hb.size)⟩
set_option maxRecDepth 100000 in
set_option maxHeartbeats 4000000 in
theorem troot_one (p S b s k z : Nat) [NeZero p] (oo : Nat → Nat → Fin p) (A : Option Addr) (N c : Nat) (rs : List (List Int)) (hN : rs.length = N) (hN2 : N ≤ 65536) (hR : ∀ l ∈ rs, l.length * 8 + 80 ≤ 140737488355328)
    (a : Nat) (ha : a + 1 ≤ N) (w : World) (F : Fld w S b p) (G : Spg w s b k z oo) (hT : TB w A rs) :
    Calls Tryz.prog 58 #[.pointer (some ⟨s, 0, none⟩), .slice A N c, Gp a (a + 1)] w (RootIs (rootD (digL p k) (rowF rs) a 1) w) := by
  have hal : a < rs.length := by omega
  have hsl := block_lt_of_cell G.c0
  obtain ⟨ad, A1, n1, c1, rfl, hb1, hc1, hl1, hn1, hs1, hi1⟩ := hT a hal
  have hrl := hR _ (List.getElem_mem hal)
  rw [rootD_one _ _ _ (by omega), rowF_at hal]
  generalize rs[a] = row at hl1 hs1 hi1 hrl
  have hB0 : Below w.heap.size w (w.alloc (.cells #[vi a, vi ((a : Int) + 1)] 100)) := (Below.refl _ _).alloc (Nat.le_refl _) _
  obtain ⟨W, hW⟩ : ∃ W, W = w.alloc (.cells #[vi a, vi ((a : Int) + 1)] 100) := ⟨_, rfl⟩
  have hB := Blk.new w 100 #[vi a, vi ((a : Int) + 1)]
  rw [← hW] at hB hB0
  have hc1W := (hB0.cell (p := ad.add a) hb1).trans hc1
  have e0 := (hB.cell 0).trans (show _ = some (vi a) from rfl)
  have e1 := (hB.cell 1).trans (show _ = some (vi ((a : Int) + 1)) from rfl)
  have hb2 : Below W.heap.size W (W.alloc (.cells #[.slice A1 n1 c1] 22)) := (Below.refl _ _).alloc (Nat.le_refl _) _
  have hj := joined_any 0 (some ⟨W.heap.size, 0, none⟩) 1 1 [row] rfl (by omega) (by simp; omega) (W.alloc (.cells #[.slice A1 n1 c1] 22)) (tb_lit1 (hs1.below hB0) hl1 hn1 hi1)
  rw [show [row].flatten = row by simp, show W.heap.size = w.heap.size + 1 by rw [hW]; simp] at hj
  have HJ := Lib.hid hj
  have HB2 := Lib.hid (hB0.trans (hb2.mono hB0.size))
  have HH := Lib.hid (fun W' A' n' c' (hl : (0 :: row).length = n') (F : Fld W' S b p) (G : Spg W' s b k z oo) (hs : SL W' A' (0 :: row)) => hash_any p S b s k z oo A' n' c' (0 :: row) hl (by
    intro x hx
    rcases List.mem_cons.1 hx with rfl | hx
    · constructor <;> omega
    · exact hi1 x hx) (by rw [← hl, List.length_cons]; omega) W' F G hs)
  have HF := Lib.hid F
  have HG := Lib.hid G
  rw [hW] at HJ HB2 hc1W e0 e1
  have a0 : (0 : Int) ≤ (a : Int) := by omega
  have a1 : (a : Int) < (N : Int) := by omega
  have hpm := F.max
  clear hB0 hB hb2 hj hW W F G hT hs1 hi1 hrl hR hN hal
  go_enter Tryz.func58, Tryz.ntmps58
  go_wp2_with fail
  refine HJ.out.mono ?_
  rintro _ w2 ⟨v2, rfl, ho2, hb2⟩
  obtain ⟨A2, n2, c2, rfl, hl2, _, _, hs2⟩ := ho2.shapeN
  have hb := HB2.out.trans (hb2.mono HB2.out.size)
  have HX := Lib.hid ((HH.out w2 A2 n2 c2 hl2 (HF.out.below hb HF.out.le) (HG.out.below hb hsl) hs2).mono fun e w' h => (h.root hpm).from hb)
  clear hl2 ho2 hb2 hs2 hb
  go_wp2_with fail
  refine HX.out.mono ?_
  rintro _ w3 ⟨g, rfl, h1, h2, h3, h4, h5, h6⟩
  go_wp2
  go_ret
  exact ⟨g, rfl, h1, h2, h3, h4, h5, h6⟩
set_option maxRecDepth 100000 in
set_option maxHeartbeats 400000 in
theorem troot_any (p S b s k z : Nat) [NeZero p] (oo : Nat → Nat → Fin p) (A : Option Addr) (N c : Nat) (rs : List (List Int)) (hN : rs.length = N) (hN2 : N ≤ 65536) (hR : ∀ l ∈ rs, l.length * 8 + 80 ≤ 140737488355328) :
    ∀ (m a : Nat), 1 ≤ m → a + m ≤ N → ∀ (w : World), Fld w S b p → Spg w s b k z oo → TB w A rs →
    Calls Tryz.prog 58 #[.pointer (some ⟨s, 0, none⟩), .slice A N c, Gp a (a + m)] w (RootIs (rootD (digL p k) (rowF rs) a m) w) := by
  intro m
  induction m using Nat.strongRecOn with
  | ind m ih =>
    intro a h1 ha w F G hT
    by_cases h2 : 2 ≤ m
    · have hlf := leftN_lt h2
      rw [rootD_two _ _ _ h2]
      have hsl := block_lt_of_cell G.c0
      have hb1 : Below w.heap.size w (w.alloc (.cells #[vi a, vi ((a : Int) + m)] 100)) := (Below.refl _ _).alloc (Nat.le_refl _) _
      have hh := halves_any a m h2 (by omega) (w.alloc (.cells #[vi a, vi ((a : Int) + m)] 100))
      have HH := Lib.hid hh
      have HB1 := Lib.hid hb1
      clear hh hb1
      obtain ⟨j, hj⟩ : ∃ j, j = leftN m := ⟨_, rfl⟩
      rw [← hj] at hlf HH ⊢
      obtain ⟨hj1, hj2, hj3⟩ := hlf
      have t1 : ((m : Int) == 1) = false := by simp; omega
      clear hj
      go_enter Tryz.func58, Tryz.ntmps58
      go_wp2_with fail
      refine HH.out.mono ?_
      rintro _ w1 ⟨rfl, hb1⟩
      go_wp2_with fail
      have hb01 : Below w.heap.size w w1 := HB1.out.trans (hb1.mono HB1.out.size)
      obtain ⟨q, hq⟩ : ∃ q, q = w1.heap.size := ⟨_, rfl⟩
      obtain ⟨W2, hW2⟩ : ∃ W2, W2 = (w1.alloc (.cells #[vi a, vi ((a : Int) + j)] 100)).alloc (.cells #[vi ((a : Int) + j), vi ((a : Int) + m)] 100) := ⟨_, rfl⟩
      rw [← hW2, ← hq]
      have hB7 := (Blk.new w1 100 #[vi a, vi ((a : Int) + j)]).alloc (.cells #[vi ((a : Int) + j), vi ((a : Int) + m)] 100)
      have hB8 := Blk.new (w1.alloc (.cells #[vi a, vi ((a : Int) + j)] 100)) 100 #[vi ((a : Int) + j), vi ((a : Int) + m)]
      rw [← hW2, show (w1.alloc (.cells #[vi a, vi ((a : Int) + j)] 100)).heap.size = q + 1 by simp [hq]] at hB8
      rw [← hW2, ← hq] at hB7
      have hb2 : Below w.heap.size w W2 := by rw [hW2]; exact (hb01.alloc hb01.size _).alloc (by have := hb01.size; simp; omega) _
      have HB2 := Lib.hid hb2
      have c70 := (hB7.cell 0).trans (show _ = some (vi a) from rfl)
      have c71 := (hB7.cell 1).trans (show _ = some (vi ((a : Int) + j)) from rfl)
      have c80 := (hB8.cell 0).trans (show _ = some (vi ((a : Int) + j)) from rfl)
      have c81 := (hB8.cell 1).trans (show _ = some (vi ((a : Int) + m)) from rfl)
      have q7 := hB7.lt
      have q8 := hB8.lt
      clear hB7 hB8 hW2 hq hb2 hb1 hb01
      obtain ⟨d1, hd1⟩ : ∃ d, d = rootD (digL p k) (rowF rs) a j := ⟨_, rfl⟩
      obtain ⟨d2, hd2⟩ : ∃ d, d = rootD (digL p k) (rowF rs) (a + j) (m - j) := ⟨_, rfl⟩
      have HD1 := Lib.hid hd1
      have HD2 := Lib.hid hd2
      have I1 := Lib.hid (fun W F G T => by have h := ih j hj1 a hj3 (by omega) W F G T; rw [← hd1] at h; exact h)
      have I2 : Hid (∀ W, Fld W S b p → Spg W s b k z oo → TB W A rs → Calls Tryz.prog 58 #[.pointer (some ⟨s, 0, none⟩), .slice A N c, .agg #[vi ((a : Int) + j), vi ((a : Int) + m)]] W (RootIs d2 W)) := Lib.hid (fun W F G T => by
        have h := ih (m - j) (by omega) (a + j) (by omega) (by omega) W F G T
        rw [← hd2, show a + j + (m - j) = a + m by omega] at h
        simpa [Gp] using h)
      have HJ := Lib.hid (fun (W : World) (g1 g2 : Nat) (l1 : d1.length = 4) (l2 : d2.length = 4) (i1 : ∀ x ∈ d1, I64 x) (i2 : ∀ x ∈ d2, I64 x) (s1 : SL W (some ⟨g1, 0, none⟩) d1) (s2 : SL W (some ⟨g2, 0, none⟩) d2) =>
        joined_any 1 (some ⟨W.heap.size, 0, none⟩) 2 2 [d1, d2] rfl (by omega) (by simp [l1, l2]) (W.alloc (.cells #[.slice (some ⟨g1, 0, none⟩) 4 4, .slice (some ⟨g2, 0, none⟩) 4 4] 22)) (tb_lit2 s1 l1 (by omega) i1 s2 l2 (by omega) i2))
      rw [show [d1, d2].flatten = d1 ++ d2 by simp] at HJ
      have HHs := Lib.hid (fun W' A' n' c' (l1 : d1.length = 4) (l2 : d2.length = 4) (i1 : ∀ x ∈ d1, I64 x) (i2 : ∀ x ∈ d2, I64 x) (hl : (1 :: (d1 ++ d2)).length = n') (F : Fld W' S b p) (G : Spg W' s b k z oo) (hs : SL W' A' (1 :: (d1 ++ d2))) => (hash_any p S b s k z oo A' n' c' (1 :: (d1 ++ d2)) hl (by
        intro x hx
        rcases List.mem_cons.1 hx with rfl | hx
        · constructor <;> omega
        · rcases List.mem_append.1 hx with hx | hx
          · exact i1 x hx
          · exact i2 x hx) (by rw [← hl]; simp [l1, l2]) W' F G hs).mono fun e w' h => h.root F.max)
      have KX : Hid (∀ W', Below W2.heap.size W2 W' → Fld W' S b p ∧ Spg W' s b k z oo ∧ TB W' A rs) := Lib.hid fun W' hb => by
        have hb' := HB2.out.trans (hb.mono HB2.out.size)
        exact ⟨F.below hb' F.le, G.below hb' hsl, hT.below hb'⟩
      have KS : Hid (∀ W', Below W2.heap.size W2 W' → W'.cell? ⟨q, 0, none⟩ = some (vi a) ∧ W'.cell? ⟨q, 1, none⟩ = some (vi ((a : Int) + j)) ∧ W'.cell? ⟨q + 1, 0, none⟩ = some (vi ((a : Int) + j)) ∧ W'.cell? ⟨q + 1, 1, none⟩ = some (vi ((a : Int) + m))) := Lib.hid fun W' hb =>
        ⟨(hb.cell (p := ⟨q, 0, none⟩) q7).trans c70, (hb.cell (p := ⟨q, 1, none⟩) q7).trans c71, (hb.cell (p := ⟨q + 1, 0, none⟩) q8).trans c80, (hb.cell (p := ⟨q + 1, 1, none⟩) q8).trans c81⟩
      have hb22 : Below W2.heap.size W2 W2.drew := below_drewN (Below.refl _ _) 1
      clear hd1 hd2 F G hT ih hR hN c70 c71 c80 c81
      go_region_held3 (fun w' => w'.cell? ⟨q, 0, none⟩ = some (vi a) ∧ w'.cell? ⟨q, 1, none⟩ = some (vi ((a : Int) + j)) ∧ w'.cell? ⟨q + 1, 0, none⟩ = some (vi ((a : Int) + j)) ∧ w'.cell? ⟨q + 1, 1, none⟩ = some (vi ((a : Int) + m)))
        (first | exact KS.out _ (Below.refl _ _) | exact KS.out _ hb22 | exact KS.out _ hb26 | exact KS.out _ hb25 | exact KS.out _ hb24a | exact KS.out _ hb24 | exact KS.out _ hb23)
        ((first
          | (go_at_call 58; (have hx := hb23; clear hx); refine (I2.out _ (KX.out _ hb23).1 (KX.out _ hb23).2.1 (KX.out _ hb23).2.2).mono ?_; rintro _ w4 ⟨g2, rfl, ⟨x2, y2⟩, s2, l2, i2, n2, hb4⟩; have s1' := s1.below hb4; have hb24 := hb23.trans (hb4.mono hb23.size); have hb24a := hb24.alloc hb24.size (.cells #[.slice (some ⟨g1, 0, none⟩) 4 4, .slice (some ⟨g2, 0, none⟩) 4 4] 22); clear y2 hb4 s1)
          | (go_at_call 58; refine (I1.out _ (KX.out _ hb22).1 (KX.out _ hb22).2.1 (KX.out _ hb22).2.2).mono ?_; rintro _ w3 ⟨g1, rfl, ⟨x1, y1⟩, s1, l1, i1, n1, hb3⟩; have hb23 : Below W2.heap.size W2 w3 := hb22.trans (hb3.mono hb22.size); clear y1 hb3)
          | (go_at_call 83; refine (HJ.out w4 g1 g2 l1 l2 i1 i2 s1' s2).mono ?_; rintro _ w5 ⟨v5, rfl, ho5, hb5⟩; obtain ⟨A5, n5, c5, rfl, hl5, _, _, hs5⟩ := ho5.shapeN; have HL5 := Lib.hid hl5; have hb25 := hb24a.trans (hb5.mono hb24a.size); clear hl5 ho5 hb5)
          | (go_at_call 55; refine ((HHs.out w5 A5 n5 c5 l1 l2 i1 i2 HL5.out (KX.out _ hb25).1 (KX.out _ hb25).2.1 hs5)).mono ?_; rintro _ w6 ⟨g6, rfl, ⟨x6, y6⟩, s6, l6, i6, n6, hb6⟩; have hb26 := hb25.trans (hb6.mono hb25.size); clear hb6)))
      have HFIN : Hid (RootIs (digL p k (1 :: (d1 ++ d2))) w (.returned (.slice (some ⟨g6, 0, none⟩) 4 4)) w6) := Lib.hid ⟨g6, rfl, ⟨_, y6⟩, s6, l6, i6, by have := HB2.out.size; have := hb25.size; omega, HB2.out.trans (hb26.mono HB2.out.size)⟩
      clear y6 s6 l6 i6 n6 hb26 hb25 hb24a hb24 hb23 hb22 l1 l2 i1 i2 s1' s2 n1 n2 hs5 HL5 KS KX HHs HJ I1 I2
      go_wp2
      go_ret
      have hfin := HFIN.out
      rw [HD1.out, HD2.out] at hfin
      exact hfin
    · have e : m = 1 := by omega
      subst e
      exact troot_one p S b s k z oo A N c rs hN hN2 hR a ha w F G hT
end Go.Proofs.YtonalbdehcmjmaaGreat

/- What a row of a slice of slices weighs at most. -/
set_option linter.unusedVariables false
namespace Go.Proofs.YtonalbdehcmjmaaGreat
open Go.RowKit Go.ChangeShapes

theorem weightsAll_mem {H : Type} {P : Program} {e : TypeId} {d : DataW H} {n : Nat} : ∀ {l : List (DataW H)}, d ∈ l → n ∈ d.weights P e → n ∈ DataW.weightsAll P e l
  | x :: l, hd, hn => by
    simp only [DataW.weightsAll, List.mem_append]
    rcases List.mem_cons.1 hd with rfl | h
    · exact .inl hn
    · exact .inr (weightsAll_mem h hn)
theorem sized_row {H : Type} {P : Program} {ts : List TypeId} {ds : List (DataW H)} (h : (DataW.weightsEach P ts ds).all (· ≤ reachBytes) = true) {j : Nat} {t e q : TypeId} {elems spare el sp : List (DataW H)} (ht : ts[j]? = some t) (hd : ds[j]? = some (.slice elems spare)) (hu : P.underlying t = some (.slice e)) (hv : P.underlying e = some (.slice q))
    (hm : .slice el sp ∈ elems) : (el.length + sp.length) * P.bytesOf q ≤ reachBytes := by
  have h1 : (el.length + sp.length) * P.bytesOf q ∈ DataW.weights P e (.slice el sp) := by simp [DataW.weights, hv]
  have h2 := weightsAll_mem hm h1
  have := List.all_eq_true.1 h _ (DataW.weights_mem_each ht hd _ (by simp only [DataW.weights, hu]; exact List.mem_cons_of_mem _ (List.mem_append_left _ h2)))
  simpa using this

theorem bytesI : Tryz.prog.bytesOf 3 = 8 := by kernel_rfl
theorem bytesR : Tryz.prog.bytesOf 22 = 24 := by kernel_rfl
/-- rows that came in, each of a length that memory holds -/
structure ArgMS (w : World) (A : Option Addr) (n c : Nat) (ts : List (List Int)) : Prop where
  m : ArgM w A n c ts
  n24 : n ≤ 5864062014805
  r8 : ∀ t ∈ ts, t.length * 8 ≤ 140737488351232
theorem ArgMS.rows {w : World} {A : Option Addr} {n c : Nat} {ts : List (List Int)} (h : ArgMS w A n c ts) : ∀ t ∈ ts, t.length ≤ 17592186044416 := fun t ht => by have := h.r8 t ht; omega
theorem ArgMS.nil (w : World) : ArgMS w none 0 0 [] := ⟨ArgM.nil _, by omega, by simp⟩
theorem ArgMS.i64 {w : World} {A : Option Addr} {n c : Nat} {ts : List (List Int)} (h : ArgMS w A n c ts) : ∀ t ∈ ts, ∀ x ∈ t, I64 x := fun t ht => by
  obtain ⟨k, hk, rfl⟩ := List.mem_iff_getElem.1 ht
  obtain ⟨_, _, _, _, _, _, _, _, _, _, hi⟩ := h.m.tb k hk
  exact hi
theorem ArgMS.mk_ {H : Type} {tys : List TypeId} {ds : List (DataW H)} (hsz : (DataW.weightsEach Tryz.prog tys ds).all (· ≤ reachBytes) = true) {j : Nat} (ht : tys[j]? = some 37) {w : World} {a : Addr} {len cap : Nat} {A : Nat → Option Addr} {L C : Nat → Nat} {Z : Nat → List Int}
    (hd : ds[j]? = some (.slice ((List.range len).map fun r => Go.Deep.intRow .i64 (A r) (L r) (Z r)) ((List.range (cap - len)).map fun j => Go.Deep.intRow .i64 (A (len + j)) (L (len + j)) (Z (len + j))))) (hl : len ≤ cap) (hm : cap ≤ maxLen)
    (h : ∀ r, r < cap → w.cell? (a.add r) = some (.slice (A r) (L r) (C r)) ∧ L r ≤ C r ∧ C r ≤ maxLen ∧ (Z r).length = C r ∧ (∀ n ∈ Z r, (Lit.int .i64 n).wf = true) ∧ (A r = none → C r = 0) ∧
        ∀ a', A r = some a' → 0 ≤ a'.block ∧ ∀ c, c < C r → w.cell? (a'.add c) = some (.int .i64 ((Z r).getD c 0))) :
    ArgMS w (some a) len cap ((List.range len).map fun r => (Z r).take (L r)) := by
  refine ⟨ArgM.mk_ hl hm h, ?_, fun t hmem => ?_⟩
  · have h1 := sized_slice hsz (j := j) (t := 37) (e := 22) ht hd Tryz.underlying37
    rw [bytesR] at h1
    simp only [List.length_map, List.length_range, reachBytes] at h1
    omega
  · obtain ⟨r, hr, rfl⟩ := List.mem_map.1 hmem
    have hr' := List.mem_range.1 hr
    obtain ⟨_, h2, _, h4, _, h6, _⟩ := h r (by omega)
    rw [List.length_take]
    cases hA : A r with
    | none => have := h6 hA; omega
    | some a' =>
      have hin : DataW.slice (H := H) (lits .i64 ((Z r).take (L r))) (lits .i64 ((Z r).drop (L r))) ∈ (List.range len).map fun r => Go.Deep.intRow .i64 (A r) (L r) (Z r) :=
        List.mem_map.2 ⟨r, hr, by simp only [Go.Deep.intRow, hA]⟩
      have h1 := sized_row hsz (j := j) ht hd Tryz.underlying37 Tryz.underlying22 hin
      rw [bytesI] at h1
      simp only [lits, List.length_map, List.length_take, List.length_drop, reachBytes] at h1
      omega
end Go.Proofs.YtonalbdehcmjmaaGreat

/- Walks: same.Copied, Rows, Opened, Openings. -/
set_option linter.unusedVariables false
namespace Go.Proofs.YtonalbdehcmjmaaGreat
open Go.RowKit Zp
end Go.Proofs.YtonalbdehcmjmaaGreat

/- Maps whose keys are structs or the like, told by what each key holds: look-up, update, an entry that is laid and then stored into. Of no program. -/
set_option linter.unusedVariables false
namespace Go.Proofs.YtonalbdehcmjmaaGreat
open Go.MapKept Go.ChangeMaps

section
variable {P : Program} {k : TypeId}
/-- the entries tell f -/
def Tells (es : Array MapEntry) (f : Value → Option Value) : Prop := ∀ x v, f x = some v ↔ ∃ e ∈ es.toList, e.key = x ∧ e.val = v
/-- block b is a map that holds f -/
def MapIs (P : Program) (k : TypeId) (w : World) (b : Nat) (f : Value → Option Value) : Prop :=
  ∃ (es : Array MapEntry) (clock : Nat), w.heap[b]? = some (.map es clock) ∧ Stamped es clock ∧ (∀ x ∈ es.toList, ∃ l, keyOf P k x.key = some l) ∧ Tells es f
/-- .. but for one key, whose entry bears a stamp -/
def EntIs (P : Program) (k : TypeId) (w : World) (b : Nat) (key : Value) (st : Nat) (f : Value → Option Value) : Prop :=
  ∃ (es : Array MapEntry) (clock : Nat), w.heap[b]? = some (.map es clock) ∧ Stamped es clock ∧ (∀ x ∈ es.toList, ∃ l, keyOf P k x.key = some l) ∧ (∃ e ∈ es.toList, e.born = st ∧ e.key = key) ∧
    ∀ x, x ≠ key → ∀ v, f x = some v ↔ ∃ e ∈ es.toList, e.key = x ∧ e.val = v
theorem MapIs.made (P : Program) (k : TypeId) (w : World) : MapIs P k (w.alloc (.map #[] 0)) w.heap.size (fun _ => none) :=
  ⟨#[], 0, (MapKept.heap_alloc w _).1, stamped_empty 0, by simp, fun x v => by simp⟩
theorem MapIs.lt {w : World} {b : Nat} {f : Value → Option Value} (h : MapIs P k w b f) : b < w.heap.size := by
  obtain ⟨es, clock, hb, _⟩ := h
  exact (Array.getElem?_eq_some_iff.1 hb).1
theorem MapIs.kept {w w' : World} {b : Nat} {f : Value → Option Value} {row : Option Nat} (h : MapIs P k w b f) (hg : w.grownBy w' row) (hne : some b ≠ row) : MapIs P k w' b f := by
  have hlt := h.lt
  obtain ⟨es, clock, hb, r⟩ := h
  exact ⟨es, clock, (hg.block b hlt hne).trans hb, r⟩
theorem MapIs.same {w w' : World} {b : Nat} {f : Value → Option Value} (h : MapIs P k w b f) (hg : w'.heap[b]? = w.heap[b]?) : MapIs P k w' b f := by
  obtain ⟨es, clock, hb, r⟩ := h
  exact ⟨es, clock, hg.trans hb, r⟩
theorem key_unique {es : Array MapEntry} {clock : Nat} (h : Stamped es clock) {x y : MapEntry} (hx : x ∈ es.toList) (hy : y ∈ es.toList) (e : x.key = y.key) : x = y := by
  have hp := ((stamped_iff es clock).1 h).2.2
  obtain ⟨i, hi, rfl⟩ := List.mem_iff_getElem.1 hx
  obtain ⟨j, hj, rfl⟩ := List.mem_iff_getElem.1 hy
  rcases Nat.lt_trichotomy i j with h1 | h1 | h1
  · exact absurd e (List.pairwise_iff_getElem.1 hp i j hi hj h1)
  · subst h1; rfl
  · exact absurd e.symm (List.pairwise_iff_getElem.1 hp j i hj hi h1)
theorem tells_some {es : Array MapEntry} {clock : Nat} (h : Stamped es clock) : ∃ f, Tells es f := by
  refine ⟨fun x => open Classical in if hx : ∃ e ∈ es.toList, e.key = x then some (Classical.choose hx).val else none, fun x v => ?_⟩
  by_cases hx : ∃ e ∈ es.toList, e.key = x
  · simp only [dif_pos hx, Option.some.injEq]
    obtain ⟨h1, h2⟩ := Classical.choose_spec hx
    constructor
    · intro hv; exact ⟨_, h1, h2, hv⟩
    · rintro ⟨e, he, h3, h4⟩
      have := key_unique h h1 he (h2.trans h3.symm)
      rw [this]; exact h4
  · simp only [dif_neg hx, reduceCtorEq, false_iff]
    rintro ⟨e, he, h3, _⟩
    exact hx ⟨e, he, h3⟩
variable (K : Maps.Keyed P k)
include K
/-- m[key] -/
theorem MapIs.look {w : World} {b : Nat} {f : Value → Option Value} (h : MapIs P k w b f) {t e : TypeId} (ht : P.underlying t = some (.map k e)) {z : Value} (hz : (zeroValue e).run P w = .ok z w) {key : Value} {kl : Lit} (hkey : keyOf P k key = some kl) :
    (Instr.lookup t (.map (some b)) key false).run P w = .ok ((f key).getD z) w := by
  obtain ⟨es, clock, hb, hs, hk, hf⟩ := h
  rcases K.find w hkey es.toList hk with ⟨h1, h2⟩ | ⟨j, e0, h1, h2, h3⟩
  · have hn : f key = none := by
      cases hfk : f key with
      | none => rfl
      | some v =>
        obtain ⟨x, hx, h3, _⟩ := (hf key v).1 hfk
        exact absurd h3 (h2 x hx)
    simp [Instr.lookup, run_underlying ht, MapKept.run_getObj_map hb, K.check w _ hkey, h1, hz, hn, Result.andThen]
  · have hn : f key = some e0.val := (hf key _).2 ⟨e0, List.mem_of_getElem? h2, h3, rfl⟩
    simp [Instr.lookup, run_underlying ht, MapKept.run_getObj_map hb, K.check w _ hkey, h1, hn, Result.andThen]
omit K in
theorem block_grown (w : World) (b : Nat) (o : Obj) : w.grownBy (setBlock w b o) (some b) := ⟨rfl, rfl, rfl, by simp [setBlock], fun i _ hi => by
  have hne : b ≠ i := fun e => hi (by rw [e])
  simp [setBlock, hne]⟩
omit K in
theorem mem_push {es : Array MapEntry} {e x : MapEntry} : x ∈ (es.push e).toList ↔ x ∈ es.toList ∨ x = e := by simp
omit K in
theorem mem_mod {es : Array MapEntry} {clock j : Nat} (hs : Stamped es clock) {e0 : MapEntry} (hj : es.toList[j]? = some e0) (v : Value) (x : MapEntry) :
    x ∈ (es.modify j fun e => { e with val := v }).toList ↔ (x ∈ es.toList ∧ x.key ≠ e0.key) ∨ x = { e0 with val := v } := by
  have hjl : j < es.toList.length := (List.getElem?_eq_some_iff.1 hj).1
  have hje : es.toList[j] = e0 := (List.getElem?_eq_some_iff.1 hj).2
  have hp := ((stamped_iff es clock).1 hs).2.2
  rw [Array.toList_modify, List.mem_iff_getElem?]
  constructor
  · rintro ⟨i, hi⟩
    rw [List.getElem?_modify] at hi
    by_cases e : j = i
    · subst e
      rw [hj] at hi
      simp at hi
      exact .inr hi.symm
    · simp only [if_neg e] at hi
      have hi' : es.toList[i]? = some x := by simpa using hi
      refine .inl ⟨List.mem_of_getElem? hi', fun hk => ?_⟩
      have hil : i < es.toList.length := (List.getElem?_eq_some_iff.1 hi').1
      have hie : es.toList[i] = x := (List.getElem?_eq_some_iff.1 hi').2
      rcases Nat.lt_or_ge i j with h1 | h1
      · exact List.pairwise_iff_getElem.1 hp i j hil hjl h1 (by rw [hie, hje]; exact hk)
      · exact List.pairwise_iff_getElem.1 hp j i hjl hil (by omega) (by rw [hie, hje]; exact hk.symm)
  · rintro (⟨hx, hk⟩ | rfl)
    · obtain ⟨i, hi⟩ := List.mem_iff_getElem?.1 hx
      refine ⟨i, ?_⟩
      have hne : j ≠ i := fun e => by subst e; rw [hj] at hi; injection hi with hi; exact hk (by rw [hi])
      simp [hne, hi]
    · exact ⟨j, by simp [hj]⟩
omit K in
theorem stamped_val {es : Array MapEntry} {clock : Nat} (hs : Stamped es clock) (j : Nat) (v : Value) : Stamped (es.modify j fun e => { e with val := v }) clock :=
  stamped_modify hs j _ (fun _ _ => rfl) (fun _ _ _ => rfl)
/-- what a map holds when one key was stored into -/
def Put (f f' : Value → Option Value) (key val : Value) : Prop := f' key = some val ∧ ∀ x, x ≠ key → f' x = f x
omit K in
theorem tells_put {es : Array MapEntry} {clock : Nat} (hs : Stamped es clock) {f : Value → Option Value} {key val : Value} (h1 : ∃ e ∈ es.toList, e.key = key ∧ e.val = val)
    (h2 : ∀ x, x ≠ key → ∀ v, f x = some v ↔ ∃ e ∈ es.toList, e.key = x ∧ e.val = v) : ∃ f', Tells es f' ∧ Put f f' key val := by
  obtain ⟨f', hf⟩ := tells_some hs
  refine ⟨f', hf, (hf key val).2 h1, fun x hx => ?_⟩
  apply Option.ext
  intro v
  rw [hf x v, h2 x hx v]
/-- m[key]'s entry is laid -/
theorem MapIs.entry {w : World} {b : Nat} {f : Value → Option Value} (h : MapIs P k w b f) {t e : TypeId} (ht : P.underlying t = some (.map k e)) {z : Value} (hz : (zeroValue e).run P w = .ok z w) {key : Value} {kl : Lit} (hkey : keyOf P k key = some kl) :
    ∃ v0 st w', (Instr.mapEntry t (.map (some b)) key).run P w = .ok (.tuple #[v0, goInt (st : Nat)]) w' ∧ EntIs P k w' b key st f ∧ w.grownBy w' (some b) := by
  obtain ⟨es, clock, hb, hs, hk, hf⟩ := h
  rcases K.find w hkey es.toList hk with ⟨h1, h2⟩ | ⟨j, e0, h1, h2, h3⟩
  · refine ⟨z, clock, setBlock w b (.map (es.push ⟨key, z, clock⟩) (clock + 1)), ?_, ⟨_, _, heap_setBlock_same hb _, stamped_push hs h2, ?_, ⟨⟨key, z, clock⟩, by simp, rfl, rfl⟩, ?_⟩, block_grown _ _ _⟩
    · simp [Instr.mapEntry, run_underlying ht, MapKept.run_getObj_map hb, K.check w false hkey, h1, hz, MapKept.run_setObj_map _ hb, Result.andThen, setBlock]
    · intro x hx
      rcases mem_push.1 hx with hx | rfl
      · exact hk x hx
      · exact ⟨kl, hkey⟩
    · intro x hx v
      rw [hf x v]
      constructor
      · rintro ⟨e, he, h3⟩; exact ⟨e, mem_push.2 (.inl he), h3⟩
      · rintro ⟨e, he, h3, h4⟩
        rcases mem_push.1 he with he | rfl
        · exact ⟨e, he, h3, h4⟩
        · exact absurd h3.symm hx
  · have hj : es[j]? = some e0 := by simpa using h2
    have hsame : es.modify j (fun e => { e with key := key }) = es := by
      apply Array.ext'
      rw [Array.toList_modify, modify_eq_set _ _ _ _ h2]
      have : ({ e0 with key := key } : MapEntry) = e0 := by rw [← h3]
      rw [this]
      exact Go.WideElems.set_self _ _ _ h2
    refine ⟨e0.val, e0.born, setBlock w b (.map es clock), ?_, ⟨es, clock, heap_setBlock_same hb _, hs, hk, ⟨e0, List.mem_of_getElem? h2, rfl, h3⟩, fun x _ v => hf x v⟩, block_grown _ _ _⟩
    simp [Instr.mapEntry, run_underlying ht, MapKept.run_getObj_map hb, K.check w false hkey, h1, hj, h3, K.stays w hkey, hsame, MapKept.run_setObj_map _ hb, Result.andThen, setBlock]
omit K in
/-- .. and stored into -/
theorem EntIs.store {w : World} {b st : Nat} {key : Value} {f : Value → Option Value} (h : EntIs P k w b key st f) (t : TypeId) (val : Value) :
    ∃ w' f', (Instr.entryStore t (.map (some b)) (goInt (st : Nat)) val).run P w = .ok () w' ∧ MapIs P k w' b f' ∧ Put f f' key val ∧ w.grownBy w' (some b) := by
  obtain ⟨es, clock, hb, hs, hk, ⟨e0, he0, rfl, rfl⟩, hf⟩ := h
  obtain ⟨j, hj⟩ := List.mem_iff_getElem?.1 he0
  have hs' := stamped_val hs j val
  have hmm := mem_mod hs hj val
  obtain ⟨f', hf', hp⟩ := tells_put (f := f) hs' (key := e0.key) (val := val) ⟨{ e0 with val := val }, (hmm _).2 (.inr rfl), rfl, rfl⟩ (fun x hx v => by
    rw [hf x hx v]
    constructor
    · rintro ⟨e, he, h3, h4⟩; exact ⟨e, (hmm e).2 (.inl ⟨he, by rw [h3]; exact hx⟩), h3, h4⟩
    · rintro ⟨e, he, h3, h4⟩
      rcases (hmm e).1 he with ⟨he, _⟩ | rfl
      · exact ⟨e, he, h3, h4⟩
      · exact absurd h3.symm hx)
  refine ⟨setBlock w b (.map (es.modify j fun e => { e with val := val }) clock), f', ?_, ⟨_, _, heap_setBlock_same hb _, hs', ?_, hf'⟩, hp, block_grown _ _ _⟩
  · have hidx : es.findIdx? (fun e => ((e.born : Nat) : Int) == ((e0.born : Nat) : Int)) = some j := by
      rw [Go.WideElems.findIdx_arr]
      exact Go.WideElems.findIdx_born hs.2.1 hj
    simp [Instr.entryStore, MapKept.run_getObj_map hb, asInt, asIntOf, goInt, hidx, MapKept.run_setObj_map _ hb, Result.andThen, setBlock]
  · intro x hx
    rcases (hmm x).1 hx with ⟨hx, _⟩ | rfl
    · exact hk x hx
    · exact hk e0 he0
/-- m[key] = val -/
theorem MapIs.update {w : World} {b : Nat} {f : Value → Option Value} (h : MapIs P k w b f) {t e : TypeId} (ht : P.underlying t = some (.map k e)) {key val : Value} {kl : Lit} (hkey : keyOf P k key = some kl) :
    ∃ w' f', (Instr.mapUpdate t (.map (some b)) key val).run P w = .ok () w' ∧ MapIs P k w' b f' ∧ Put f f' key val ∧ w.grownBy w' (some b) := by
  obtain ⟨es, clock, hb, hs, hk, hf⟩ := h
  rcases K.find w hkey es.toList hk with ⟨h1, h2⟩ | ⟨j, e0, h1, h2, h3⟩
  · have hs' := stamped_push hs (val := val) h2
    obtain ⟨f', hf', hp⟩ := tells_put (f := f) hs' (key := key) (val := val) ⟨⟨key, val, clock⟩, by simp, rfl, rfl⟩ (fun x hx v => by
      rw [hf x v]
      constructor
      · rintro ⟨e, he, h3⟩; exact ⟨e, mem_push.2 (.inl he), h3⟩
      · rintro ⟨e, he, h3, h4⟩
        rcases mem_push.1 he with he | rfl
        · exact ⟨e, he, h3, h4⟩
        · exact absurd h3.symm hx)
    refine ⟨setBlock w b (.map (es.push ⟨key, val, clock⟩) (clock + 1)), f', ?_, ⟨_, _, heap_setBlock_same hb _, hs', ?_, hf'⟩, hp, block_grown _ _ _⟩
    · simp [Instr.mapUpdate, run_underlying ht, MapKept.run_getObj_map hb, K.check w false hkey, h1, MapKept.run_setObj_map _ hb, Result.andThen, setBlock]
    · intro x hx
      rcases mem_push.1 hx with hx | rfl
      · exact hk x hx
      · exact ⟨kl, hkey⟩
  · subst h3
    have hj : es[j]? = some e0 := by simpa using h2
    have hsame : es.modify j (fun e => { e with key := e0.key, val := val }) = es.modify j (fun e => { e with val := val }) := by
      apply Array.ext'
      rw [Array.toList_modify, Array.toList_modify, modify_eq_set _ _ _ _ h2, modify_eq_set _ _ _ _ h2]
    have hs' := stamped_val hs j val
    have hmm := mem_mod hs h2 val
    obtain ⟨f', hf', hp⟩ := tells_put (f := f) hs' (key := e0.key) (val := val) ⟨{ e0 with val := val }, (hmm _).2 (.inr rfl), rfl, rfl⟩ (fun x hx v => by
      rw [hf x v]
      constructor
      · rintro ⟨e, he, h3, h4⟩; exact ⟨e, (hmm e).2 (.inl ⟨he, by rw [h3]; exact hx⟩), h3, h4⟩
      · rintro ⟨e, he, h3, h4⟩
        rcases (hmm e).1 he with ⟨he, _⟩ | rfl
        · exact ⟨e, he, h3, h4⟩
        · exact absurd h3.symm hx)
    refine ⟨setBlock w b (.map (es.modify j fun e => { e with val := val }) clock), f', ?_, ⟨_, _, heap_setBlock_same hb _, hs', ?_, hf'⟩, hp, block_grown _ _ _⟩
    · simp [Instr.mapUpdate, run_underlying ht, MapKept.run_getObj_map hb, K.check w false hkey, h1, hj, K.stays w hkey, hsame, MapKept.run_setObj_map _ hb, Result.andThen, setBlock]
    · intro x hx
      rcases (hmm x).1 hx with ⟨hx, _⟩ | rfl
      · exact hk x hx
      · exact hk e0 (List.mem_of_getElem? h2)
end
end Go.Proofs.YtonalbdehcmjmaaGreat

/- Groups of rows as keys of maps. -/
set_option linter.unusedVariables false
namespace Go.Proofs.YtonalbdehcmjmaaGreat
open Go.RowKit Zp
theorem gk_at : Tryz.prog.keyTypeAt 3 100 = true := by kernel_rfl
theorem gk_row : 100 < Tryz.prog.types.size := of_decide_eq_true (by kernel_rfl)
theorem gk_laid : laidOutB Tryz.prog = true := by kernel_rfl
theorem keyed_group : Maps.Keyed Tryz.prog 100 :=
  Maps.Keyed.of_law (deep_law_laid (P := Tryz.prog) gk_laid (m := 3) (by omega) gk_row gk_at (by rw [Tryz.underlying100]))
theorem gk_type : Tryz.prog.keyType 100 = true := by kernel_rfl
theorem gk_cells : Tryz.prog.cellsOf 100 = 2 := by kernel_rfl
theorem gk_int : Tryz.prog.cellsOf 3 = 1 := by kernel_rfl
theorem gk_size : ∃ m, Tryz.prog.types.size = m + 1 := ⟨Tryz.prog.types.size - 1, by have := gk_row; omega⟩
theorem key_group {x y : Int} (hx : I64 x) (hy : I64 y) : ∃ l, keyOf Tryz.prog 100 (.agg #[vi x, vi y]) = some l := by
  have wx : (Lit.int .i64 x).wf = true := by simp [Lit.wf, IntKind.min, IntKind.max, IntKind.signed, IntKind.bits]; omega
  have wy : (Lit.int .i64 y).wf = true := by simp [Lit.wf, IntKind.min, IntKind.max, IntKind.signed, IntKind.bits]; omega
  have h0 := gk_type
  have h1 := gk_cells
  have h2 := gk_int
  obtain ⟨m, hm⟩ := gk_size
  refine ⟨.string (keyBytes [.int .i64 x, .int .i64 y]), ?_⟩
  unfold keyOf
  simp only [Tryz.underlying100]
  rw [if_pos (by simp [h0, Value.formed, Tryz.underlying100, h1]), hm]
  unfold Program.keyLits
  simp only [Tryz.underlying100, Value.cells]
  rw [if_pos (by refine ⟨by rw [h1]; rfl, by kernel_rfl⟩)]
  simp [h2, Program.keyLits, Tryz.underlying3, wx, wy, List.mapM_cons, List.mapM_nil]
theorem key_gp {a c : Nat} (hc : a ≤ 65536 ∧ c ≤ 65536) : ∃ l, keyOf Tryz.prog 100 (Gp a c) = some l := key_group ⟨by omega, by omega⟩ ⟨by omega, by omega⟩
theorem gp_inj {a c a' c' : Nat} (h : Gp a c = Gp a' c') : a = a' ∧ c = c' := by
  simp [Gp] at h
  omega
end Go.Proofs.YtonalbdehcmjmaaGreat

/- Walks: tree.Root; tree.hidden, with whatever function it is handed. -/
set_option linter.unusedVariables false
namespace Go.Proofs.YtonalbdehcmjmaaGreat
open Go.RowKit Zp
/-- the root of rows, and no error -/
def TRootIs (l : List Int) (w : World) (e : Ending) (w' : World) : Prop :=
  ∃ g : Nat, e = .returned (.tuple #[.slice (some ⟨g, 0, none⟩) 4 4, .nilIface]) ∧ (∃ cs, Blk w' g 56 cs) ∧ SL w' (some ⟨g, 0, none⟩) l ∧ l.length = 4 ∧ (∀ x ∈ l, I64 x) ∧ w.heap.size ≤ g ∧ Below w.heap.size w w'
set_option maxRecDepth 100000 in
set_option maxHeartbeats 2000000 in
theorem tRoot_yes (p S b s k z : Nat) [NeZero p] (oo : Nat → Nat → Fin p) (A : Option Addr) (N c : Nat) (rs : List (List Int)) (hN : rs.length = N) (h1 : 1 ≤ N) (hN2 : N ≤ 65536) (hR : ∀ l ∈ rs, l.length * 8 + 80 ≤ 140737488355328)
    (w : World) (F : Fld w S b p) (G : Spg w s b k z oo) (hT : TB w A rs) :
    Calls Tryz.prog 31 #[.pointer (some ⟨s, 0, none⟩), .slice A N c] w (TRootIs (rootD (digL p k) (rowF rs) 0 N) w) := by
  have HR := Lib.hid (fun w => right_any (N : Int) w)
  have HB := Lib.hid (show rightB (N : Int) = true from decide_eq_true (by constructor <;> omega))
  have h := troot_any p S b s k z oo A N c rs hN hN2 hR N 0 h1 (by omega) w F G hT
  rw [show (0 + N) = N by omega] at h
  have HT := Lib.hid h
  clear h hT F G hR hN
  go_enter Tryz.func31, Tryz.ntmps31
  go_wp2_with fail
  refine (HR.out _).mono ?_
  rintro e w' ⟨rfl, rfl⟩
  rw [HB.out]
  go_wp2_with fail
  refine (HT.out).mono ?_
  rintro _ w1 ⟨g, rfl, h1, h2, h3, h4, h5, h6⟩
  have HFIN : Hid (TRootIs (rootD (digL p k) (rowF rs) 0 N) w (.returned (.tuple #[.slice (some ⟨g, 0, none⟩) 4 4, .nilIface])) w1) := Lib.hid ⟨g, rfl, h1, h2, h3, h4, h5, h6⟩
  clear h1 h2 h3 h4 h5 h6 HT HR HB
  go_wp2
  go_ret2
  exact HFIN.out
theorem SL.farO {w w' : World} {A : Option Addr} {xs : List Int} {g : Nat} (h : SL w A xs) (hg : w.grownBy w' (some g)) (hne : ∀ ad, A = some ad → xs ≠ [] → ad.block ≠ g) : SL w' A xs := by
  by_cases hx : xs = []
  · subst hx
    exact SL.nil
  · cases A with
    | none =>
      rcases Nat.eq_zero_or_pos xs.length with h0 | h0
      · exact absurd (List.length_eq_zero_iff.1 h0) hx
      · obtain ⟨ad, h1, _⟩ := h.at_ h0
        cases h1
    | some ad => exact h.far hg (hne ad rfl hx)
set_option maxRecDepth 100000 in
set_option maxHeartbeats 1000000 in
theorem hidden_any (K : Nat) (hK : ∀ (args : Array Value) (w : World), (callFunc K args).run Tryz.prog w = .ok (.enter K args) w) (caps : Array Value) (g0 : Nat) (A0 : Option Addr) (n c : Nat) (l : List Int) (hadg : ∀ ad, A0 = some ad → l ≠ [] → ad.block ≠ g0) (hml : l.length = n) (hn : n ≤ 65536) (hup : Asc l)
    (J : List (Nat × Nat) → World → Prop) (hJ : ∀ pre W W', J pre W → Below W.heap.size W W' → J pre W')
    (hY : ∀ (pre : List (Nat × Nat)) (a m : Nat) (W : World), J pre W → 1 ≤ m → a + m ≤ 65536 → Calls Tryz.prog K (#[.agg #[vi (a : Int), vi ((a : Int) + (m : Int))]] ++ caps) W fun e W' => (∃ r, e = .returned r) ∧ J (pre ++ [(a, m)]) W' ∧ W.grownBy W' (some g0)) :
    ∀ (m a : Nat), 1 ≤ m → a + m ≤ 65536 → ∀ (pre : List (Nat × Nat)) (w : World), J pre w → SL w A0 l → g0 < w.heap.size →
    Calls Tryz.prog 69 #[Gp a (a + m), .slice A0 n c, .func (.func K) #[] caps] w fun e w' => (∃ r, e = .returned r) ∧ J (pre ++ hidL l a m) w' ∧ w.grownBy w' (some g0) := by
  intro m
  induction m using Nat.strongRecOn with
  | ind m ih =>
    intro a h1 ha pre w hj hs hg0
    have hb1 : Below w.heap.size w (w.alloc (.cells #[vi a, vi ((a : Int) + m)] 100)) := (Below.refl _ _).alloc (Nat.le_refl _) _
    have hB := Blk.new w 100 #[vi a, vi ((a : Int) + m)]
    have HSH := Lib.hid (shows_any A0 n c l hml hn hup a m ha _ (hs.below hb1))
    have HB1 := Lib.hid hb1
    by_cases hsh : shownB l a m = true
    · have HS0 := Lib.hid hsh
      by_cases h2 : 2 ≤ m
      · have hlf := leftN_lt h2
        have HHL := Lib.hid (show hidL l a m = hidL l a (leftN m) ++ hidL l (a + leftN m) (m - leftN m) by rw [hidL, if_pos hsh, dif_pos h2])
        have HH := Lib.hid (fun w => halves_any a m h2 (by omega) w)
        obtain ⟨j, hj'⟩ : ∃ j, j = leftN m := ⟨_, rfl⟩
        rw [← hj'] at hlf HH HHL
        obtain ⟨hj1, hj2, hj3⟩ := hlf
        have I1 := Lib.hid (fun W (x : J pre W) y z => ih j hj1 a hj3 (by omega) pre W x y z)
        have I2 : Hid (∀ W, J (pre ++ hidL l a j) W → SL W A0 l → g0 < W.heap.size → Calls Tryz.prog 69 #[.agg #[vi ((a : Int) + j), vi ((a : Int) + m)], .slice A0 n c, .func (.func K) #[] caps] W fun e w' => (∃ r, e = .returned r) ∧ J ((pre ++ hidL l a j) ++ hidL l (a + j) (m - j)) w' ∧ W.grownBy w' (some g0)) := Lib.hid (fun W x y z => by
          have h := ih (m - j) (by omega) (a + j) (by omega) (by omega) (pre ++ hidL l a j) W x y z
          rw [show a + j + (m - j) = a + m by omega] at h
          simpa [Gp] using h)
        have t1 : decide (1 < (m : Int)) = true := by simp; omega
        have t2 : decide ((1 : Int) < (a : Int) + (m : Int) - (a : Int)) = true := by simp; omega
        have HJ := Lib.hid hj
        have HJB := Lib.hid hJ
        have HBB := Lib.hid hB
        have HSS := Lib.hid hs
        clear hsh hB hb1 ih hJ hY hup hml hj hj' hs
        go_enter Tryz.func69, Tryz.ntmps69
        go_wp2_with fail
        refine HSH.out.mono ?_
        rintro e w2 ⟨rfl, hb2⟩
        rw [HS0.out]
        have hB2 := Blk.below HBB.out hb2 HBB.out.lt
        have e0 := (hB2.cell 0).trans (show _ = some (vi a) from rfl)
        have e1 := (hB2.cell 1).trans (show _ = some (vi ((a : Int) + m)) from rfl)
        have hb02 := HB1.out.trans (hb2.mono HB1.out.size)
        have HB02 := Lib.hid hb02
        clear hB2 hb2 hb02
        go_wp2_with fail
        refine (HH.out w2).mono ?_
        rintro _ w3 ⟨rfl, hb3⟩
        have hb03 := HB02.out.trans (hb3.mono HB02.out.size)
        have HB03 := Lib.hid hb03
        clear e0 e1 hb3 hb03
        go_wp2_with fail
        obtain ⟨q, hq⟩ : ∃ q, q = w3.heap.size := ⟨_, rfl⟩
        obtain ⟨W4, hW4⟩ : ∃ W4, W4 = (w3.alloc (.cells #[vi a, vi ((a : Int) + j)] 100)).alloc (.cells #[vi ((a : Int) + j), vi ((a : Int) + m)] 100) := ⟨_, rfl⟩
        rw [← hW4]
        have hB7 := (Blk.new w3 100 #[vi a, vi ((a : Int) + j)]).alloc (.cells #[vi ((a : Int) + j), vi ((a : Int) + m)] 100)
        have hB8 := Blk.new (w3.alloc (.cells #[vi a, vi ((a : Int) + j)] 100)) 100 #[vi ((a : Int) + j), vi ((a : Int) + m)]
        rw [← hW4, show (w3.alloc (.cells #[vi a, vi ((a : Int) + j)] 100)).heap.size = q + 1 by simp [hq]] at hB8
        rw [← hW4, ← hq] at hB7
        have hb4 : Below w.heap.size w W4 := by rw [hW4]; exact (HB03.out.alloc HB03.out.size _).alloc (by have := HB03.out.size; simp; omega) _
        have hqs := HB03.out.size
        rw [← hq] at hqs ⊢
        clear hW4 hq
        refine (I1.out W4 (HJB.out _ _ _ HJ.out hb4) (HSS.out.below hb4) (by have := hb4.size; omega)).mono ?_
        rintro _ w5 ⟨⟨r5, rfl⟩, hj5, hg5⟩
        have hB8' := Blk.grown hB8 hg5 (by intro e; injection e with e; omega)
        have e0 := (hB8'.cell 0).trans (show _ = some (vi ((a : Int) + j)) from rfl)
        have e1 := (hB8'.cell 1).trans (show _ = some (vi ((a : Int) + m)) from rfl)
        have hs5 : SL w5 A0 l := (HSS.out.below hb4).farO hg5 hadg
        have HJ5 := Lib.hid hj5
        have HG5 := Lib.hid (grownBy_trans (grown_of_below hb4 (some g0)) hg5)
        have HX := Lib.hid (I2.out w5 hj5 hs5 (by have := HG5.out.size; omega))
        clear hB7 hB8 hB8' hj5 hg5 hs5 hb4 I1 I2 HJ
        go_wp2_with fail
        refine HX.out.mono ?_
        rintro _ w6 ⟨⟨r6, rfl⟩, hj6, hg6⟩
        have HFIN : Hid (J (pre ++ hidL l a m) w6 ∧ w.grownBy w6 (some g0)) := Lib.hid ⟨by rw [HHL.out, ← List.append_assoc]; exact hj6, grownBy_trans HG5.out hg6⟩
        clear hj6 hg6 HX e0 e1
        go_wp2
        go_end0
        exact ⟨⟨_, rfl⟩, HFIN.out.1, HFIN.out.2⟩
      · have e : m = 1 := by omega
        subst e
        have HHL := Lib.hid (show hidL l a 1 = [] by rw [hidL, if_pos hsh, dif_neg h2])
        have HJ := Lib.hid hj
        have HJB := Lib.hid hJ
        have HBB := Lib.hid hB
        clear hsh hB hb1 ih hJ hY hup hml hj
        go_enter Tryz.func69, Tryz.ntmps69
        go_wp2_with fail
        refine HSH.out.mono ?_
        rintro e w2 ⟨rfl, hb2⟩
        rw [HS0.out]
        have hB2 := Blk.below HBB.out hb2 HBB.out.lt
        have e0 := (hB2.cell 0).trans (show _ = some (vi a) from rfl)
        have e1 := (hB2.cell 1).trans (show _ = some (vi ((a : Int) + 1)) from rfl)
        have hb02 := HB1.out.trans (hb2.mono HB1.out.size)
        have HFIN : Hid (J (pre ++ hidL l a 1) w2 ∧ w.grownBy w2 (some g0)) := Lib.hid ⟨by rw [HHL.out, List.append_nil]; exact HJB.out _ _ _ HJ.out hb02, grown_of_below hb02 _⟩
        clear hB2 hb2 hb02
        go_wp2
        go_end0
        exact ⟨⟨_, rfl⟩, HFIN.out.1, HFIN.out.2⟩
    · have HS0 := Lib.hid (show shownB l a m = false by simpa using hsh)
      have HHL := Lib.hid (show hidL l a m = [(a, m)] by rw [hidL, if_neg hsh])
      have HYY := Lib.hid (fun W h => hY pre a m W h h1 ha)
      have HJ := Lib.hid hj
      have HJB := Lib.hid hJ
      have HBB := Lib.hid hB
      clear hsh hB hb1 ih hJ hY hup hml hj
      go_enter Tryz.func69, Tryz.ntmps69
      go_wp2_with fail
      refine HSH.out.mono ?_
      rintro e w2 ⟨rfl, hb2⟩
      rw [HS0.out]
      have hB2 := Blk.below HBB.out hb2 HBB.out.lt
      have e0 := (hB2.cell 0).trans (show _ = some (vi a) from rfl)
      have e1 := (hB2.cell 1).trans (show _ = some (vi ((a : Int) + m)) from rfl)
      have hb02 := HB1.out.trans (hb2.mono HB1.out.size)
      have HB02 := Lib.hid hb02
      clear hB2 hb2 hb02
      go_wp2_with fail
      refine (HYY.out w2 (HJB.out _ _ _ HJ.out HB02.out)).mono ?_
      rintro _ w3 ⟨⟨r3, rfl⟩, hj3, hg3⟩
      have HFIN : Hid (J (pre ++ hidL l a m) w3 ∧ w.grownBy w3 (some g0)) := Lib.hid ⟨by rw [HHL.out]; exact hj3, grownBy_trans (grown_of_below HB02.out _) hg3⟩
      clear hj3 hg3 e0 e1
      go_wp2
      exact bodyPost_ret (results_none rfl _ _ _) rfl ⟨⟨_, rfl⟩, HFIN.out.1, HFIN.out.2⟩
end Go.Proofs.YtonalbdehcmjmaaGreat

/- What was worked out of an Opening, in memory: a struct of two maps keyed by groups. -/
set_option linter.unusedVariables false
namespace Go.Proofs.YtonalbdehcmjmaaGreat
open Go.RowKit Zp Go.MapKept Go.ChangeMaps
/-- nothing that was there is turned but two blocks -/
structure GrowM (w w' : World) (c m : Nat) : Prop where
  os : w'.os = w.os
  tape : w'.tape = w.tape
  output : w'.output = w.output
  size : w.heap.size ≤ w'.heap.size
  block : ∀ x, x < w.heap.size → x ≠ c → x ≠ m → w'.heap[x]? = w.heap[x]?
section
variable {a b d : World} {c m B : Nat}
theorem GrowM.refl (w : World) (c m : Nat) : GrowM w w c m := ⟨rfl, rfl, rfl, Nat.le_refl _, fun _ _ _ _ => rfl⟩
theorem GrowM.trans (h : GrowM a b c m) (g : GrowM b d c m) : GrowM a d c m :=
  ⟨g.os.trans h.os, g.tape.trans h.tape, g.output.trans h.output, Nat.le_trans h.size g.size, fun x h1 h2 h3 => (g.block x (Nat.lt_of_lt_of_le h1 h.size) h2 h3).trans (h.block x h1 h2 h3)⟩
theorem GrowM.one (h : a.grownBy b (some c)) : GrowM a b c m := ⟨h.os, h.tape, h.output, h.size, fun x h1 h2 _ => h.block x h1 (fun e => h2 (by injection e))⟩
theorem GrowM.two (h : a.grownBy b (some m)) : GrowM a b c m := ⟨h.os, h.tape, h.output, h.size, fun x h1 _ h3 => h.block x h1 (fun e => h3 (by injection e))⟩
theorem GrowM.of (h : Below a.heap.size a b) : GrowM a b c m := ⟨h.os, h.tape, h.output, h.size, fun x h1 _ _ => h.block x h1⟩
theorem GrowM.below (h : GrowM a b c m) (hB : B ≤ a.heap.size) (hc : B ≤ c) (hm : B ≤ m) : Below B a b := ⟨h.os, h.tape, h.output, h.size, fun x hx => h.block x (by omega) (by omega) (by omega)⟩
theorem GrowM.drewN (h : GrowM a b c m) (n : Nat) : GrowM a (b.drewN n) c m := ⟨h.os, h.tape, h.output, h.size, h.block⟩
end
/-- a block that is a map -/
def IsMap (w : World) (b : Nat) : Prop := ∃ es clock, w.heap[b]? = some (.map es clock)
theorem IsMap.lt {w : World} {b : Nat} (h : IsMap w b) : b < w.heap.size := by
  obtain ⟨es, clock, hb⟩ := h
  exact (Array.getElem?_eq_some_iff.1 hb).1
theorem IsMap.ne_blk {w : World} {b g : Nat} {t : TypeId} {cs : Array Value} (h : IsMap w b) (hg : Blk w g t cs) : g ≠ b := by
  rintro rfl
  obtain ⟨es, clock, hb⟩ := h
  unfold Blk at hg
  rw [hb] at hg
  injection hg with hg
  cases hg
theorem IsMap.ne_cell {w : World} {b : Nat} {p : Addr} {v : Value} (h : IsMap w b) (hg : w.cell? p = some v) : p.block ≠ b := by
  rintro rfl
  obtain ⟨es, clock, hb⟩ := h
  simp [World.cell?, hb] at hg
theorem MapIs.isMap {P : Program} {k : TypeId} {w : World} {b : Nat} {f : Value → Option Value} (h : MapIs P k w b f) : IsMap w b := by
  obtain ⟨es, clock, hb, _⟩ := h
  exact ⟨es, clock, hb⟩
theorem EntIs.isMap {P : Program} {k : TypeId} {w : World} {b st : Nat} {key : Value} {f : Value → Option Value} (h : EntIs P k w b key st f) : IsMap w b := by
  obtain ⟨es, clock, hb, _⟩ := h
  exact ⟨es, clock, hb⟩
theorem EntIs.kept {P : Program} {k : TypeId} {w w' : World} {b st : Nat} {key : Value} {f : Value → Option Value} {row : Option Nat} (h : EntIs P k w b key st f) (hg : w.grownBy w' row) (hne : some b ≠ row) : EntIs P k w' b key st f := by
  have hlt := h.isMap.lt
  obtain ⟨es, clock, hb, r⟩ := h
  exact ⟨es, clock, (hg.block b hlt hne).trans hb, r⟩
section
variable {w w' : World} {c m : Nat}
theorem GrowM.cell (h : GrowM w w' c m) (hc : IsMap w c) (hm : IsMap w m) {p : Addr} {v : Value} (hp : w.cell? p = some v) : w'.cell? p = some v := by
  rw [← hp]
  exact World.cell?_of_block (h.block p.block (block_lt_of_cell hp) (hc.ne_cell hp) (hm.ne_cell hp))
theorem GrowM.blk (h : GrowM w w' c m) (hc : IsMap w c) (hm : IsMap w m) {g : Nat} {t : TypeId} {cs : Array Value} (hg : Blk w g t cs) : Blk w' g t cs :=
  (h.block g hg.lt (hc.ne_blk hg) (hm.ne_blk hg)).trans hg
theorem SL.growM {A : Option Addr} {xs : List Int} (hs : SL w A xs) (h : GrowM w w' c m) (hc : IsMap w c) (hm : IsMap w m) : SL w' A xs := by
  refine ⟨hs.1, fun hn => ?_⟩
  obtain ⟨ad, e, hb, hcell⟩ := hs.2 hn
  exact ⟨ad, e, Nat.lt_of_lt_of_le hb h.size, fun j u hu => h.cell hc hm (hcell j u hu)⟩
theorem TB.growM {A : Option Addr} {ts : List (List Int)} (ht : TB w A ts) (h : GrowM w w' c m) (hc : IsMap w c) (hm : IsMap w m) : TB w' A ts := fun k hk => by
  obtain ⟨ad, A1, n1, c1, h1, h2, h3, h4, h5, h6, h7⟩ := ht k hk
  exact ⟨ad, A1, n1, c1, h1, Nat.lt_of_lt_of_le h2 h.size, h.cell hc hm h3, h4, h5, h6.growM h hc hm, h7⟩
theorem Spg.growM {p s b k z : Nat} [NeZero p] {oo : Nat → Nat → Fin p} (G : Spg w s b k z oo) (h : GrowM w w' c m) (hc : s < c) (hm : s < m) : Spg w' s b k z oo :=
  G.below (h.below (B := s + 1) (block_lt_of_cell G.c0) hc hm) (Nat.lt_succ_self _)
theorem Fld.growM {S b p : Nat} [NeZero p] (F : Fld w S b p) (h : GrowM w w' c m) (hc : S ≤ c) (hm : S ≤ m) : Fld w' S b p := F.below (h.below F.le hc hm) (Nat.le_refl _)
end
/-- a digest as a value -/
def dgV (d : List Int) : Value := .agg (d.map vi).toArray
/-- what a map of lists has of a group -/
def LIs (w : World) : Option Value → Option (List Int) → Prop
  | none, none => True
  | some v, some l => ∃ A n c, v = .slice A n c ∧ l.length = n ∧ 0 < n ∧ n ≤ 281474976710656 ∧ SL w A l ∧ ∀ x ∈ l, I64 x
  | _, _ => False
def DMap (w : World) (b : Nat) (f : GF) : Prop := ∃ F, MapIs Tryz.prog 100 w b F ∧ ∀ a m, 1 ≤ m → a + m ≤ 65536 → F (Gp a (a + m)) = (f a m).map dgV
def LMap (w : World) (b : Nat) (f : GF) : Prop := ∃ F, MapIs Tryz.prog 100 w b F ∧ ∀ a m, 1 ≤ m → a + m ≤ 65536 → LIs w (F (Gp a (a + m))) (f a m)
/-- what was worked out -/
structure Way (w : World) (y bD bL : Nat) (fD fL : GF) : Prop where
  obj : Blk w y 147 #[.map (some bD), .map (some bL)]
  dig : DMap w bD fD
  lis : LMap w bL fL
  ne : bD ≠ bL
theorem LIs.mono {w w' : World} {o : Option Value} {l : Option (List Int)} (h : LIs w o l) (hs : ∀ A xs, SL w A xs → SL w' A xs) : LIs w' o l := by
  cases o <;> cases l
  · trivial
  · exact h
  · exact h
  · obtain ⟨A, n, c, h1, h2, h3, h4, h5, h6⟩ := h
    exact ⟨A, n, c, h1, h2, h3, h4, hs _ _ h5, h6⟩
section
variable {w w' : World} {y bD bL : Nat} {fD fL : GF}
theorem DMap.isMap (h : DMap w bD fD) : IsMap w bD := h.choose_spec.1.isMap
theorem LMap.isMap (h : LMap w bL fL) : IsMap w bL := h.choose_spec.1.isMap
theorem Way.mapD (h : Way w y bD bL fD fL) : IsMap w bD := h.dig.isMap
theorem Way.mapL (h : Way w y bD bL fD fL) : IsMap w bL := h.lis.isMap
theorem DMap.same (h : DMap w bD fD) (hb : w'.heap[bD]? = w.heap[bD]?) : DMap w' bD fD := by
  obtain ⟨F, h1, h2⟩ := h
  exact ⟨F, h1.same hb, h2⟩
theorem LMap.same (h : LMap w bL fL) (hb : w'.heap[bL]? = w.heap[bL]?) (hs : ∀ A xs, SL w A xs → SL w' A xs) : LMap w' bL fL := by
  obtain ⟨F, h1, h2⟩ := h
  exact ⟨F, h1.same hb, fun a m h3 h4 => (h2 a m h3 h4).mono hs⟩
theorem Way.below (h : Way w y bD bL fD fL) (hb : Below w.heap.size w w') : Way w' y bD bL fD fL :=
  ⟨Blk.below h.obj hb h.obj.lt, h.dig.same (hb.block _ h.mapD.lt), h.lis.same (hb.block _ h.mapL.lt) (fun A xs hs => hs.below hb), h.ne⟩
/-- m[g] of the digests -/
theorem DMap.look (h : DMap w bD fD) {a m : Nat} (h1 : 1 ≤ m) (h2 : a + m ≤ 65536) {d : List Int} (hd : fD a m = some d) :
    (Instr.lookup 144 (.map (some bD)) (.agg #[vi (a : Int), vi ((a + m : Nat) : Int)]) false).run Tryz.prog w = .ok (dgV d) w := by
  obtain ⟨F, h3, h4⟩ := h
  obtain ⟨l, hl⟩ := key_gp (a := a) (c := a + m) (by omega)
  have := h3.look keyed_group Tryz.underlying144 (z := .agg #[vi 0, vi 0, vi 0, vi 0]) (by kernel_rfl) hl
  rw [h4 a m h1 h2, hd] at this
  exact this
end
end Go.Proofs.YtonalbdehcmjmaaGreat

/- A region that draws its order, walked by hand: what yields wherever S holds is taken first. Of no program. -/
set_option linter.unusedVariables false
namespace Go.Proofs.YtonalbdehcmjmaaGreat
open Go.RowKit
theorem wpAnyH_take_at {P : Program} {ops : Array Oper} {Q : Exit → Act → World → Prop} {md : Region.Mode} {S : World → Prop} {i d : Nat} {oi : Oper} {v : Value} {fuel : Nat} {listed : Array Bool} {a : Act} {w : World} (hi : ops[i]? = some oi) (hd : oi.dst = some d)
    (hs : Region.noSelect ops = true) (hf : Region.free md ops listed i = true) (hr : (Region.ready md ops listed).contains i = true)
    (hQ : ∀ c a w, Q (.panic c) (a.put (some d) v) w → Q (.panic c) a w) (hy : YieldsIf P ops S oi v a) (hS : S w)
    (h : wpAnyH P md ops Q S fuel (listed.setIfInBounds i true) (a.put (some d) v) w) : wpAnyH P md ops Q S (fuel + 1) listed a w := by
  rw [← hd] at h hQ
  exact wpAnyH_take hi hs hf hr hQ hy hS h
end Go.Proofs.YtonalbdehcmjmaaGreat

/- The walk of tree.way.work: what an Opening shows is worked out, group by group. -/
set_option linter.unusedVariables false
namespace Go.Proofs.YtonalbdehcmjmaaGreat
open Go.RowKit Zp Go.MapKept Go.ChangeMaps
/-- what work hands back: the nodes that are left; the maps hold what was worked out -/
def WorkIs (y bD bL : Nat) (r : (GF × GF) × List (List Int)) (w : World) (e : Ending) (w' : World) : Prop :=
  ∃ A' n' c', e = .returned (.slice A' n' c') ∧ r.2.length = n' ∧ n' ≤ c' ∧ TB w' A' r.2 ∧ Way w' y bD bL r.1.1 r.1.2 ∧ GrowM w w' bD bL
theorem TB.tail {w : World} {ad : Addr} {l : List Int} {ls : List (List Int)} (h : TB w (some ad) (l :: ls)) : TB w (some (ad.add 1)) ls := fun k hk => by
  obtain ⟨ad', A, n, c, e, h2, h3, h4⟩ := h (k + 1) (by simpa using hk)
  injection e with e
  subst e
  refine ⟨ad.add 1, A, n, c, rfl, ?_, ?_, h4⟩
  · rw [add_of_add, Nat.add_comm 1 k]; exact h2
  · rw [add_of_add, Nat.add_comm 1 k]; exact h3
theorem TB.none_ (w : World) (A : Option Addr) : TB w A [] := fun k hk => absurd hk (by simp)
theorem DMap.put {w' : World} {bD a m : Nat} {fD : GF} {F F' : Value → Option Value} {d : List Int} (h : ∀ a m, 1 ≤ m → a + m ≤ 65536 → F (Gp a (a + m)) = (fD a m).map dgV)
    (hm : MapIs Tryz.prog 100 w' bD F') (hp : Put F F' (Gp a (a + m)) (dgV d)) : DMap w' bD (updF fD a m d) := by
  refine ⟨F', hm, fun a' m' h1 h2 => ?_⟩
  by_cases e : a' = a ∧ m' = m
  · obtain ⟨rfl, rfl⟩ := e
    rw [updF_same, hp.1]; rfl
  · rw [updF_other _ _ e, hp.2 _ (fun he => e ?_), h a' m' h1 h2]
    have := gp_inj he
    omega
theorem Way.putD {w : World} {y bD bL a m : Nat} {fD fL : GF} (h : Way w y bD bL fD fL) (h1 : 1 ≤ m) (h2 : a + m ≤ 65536) (d : List Int) :
    ∃ w', (Instr.mapUpdate 144 (.map (some bD)) (.agg #[vi (a : Int), vi ((a : Int) + (m : Int))]) (dgV d)).run Tryz.prog w = .ok () w' ∧ Way w' y bD bL (updF fD a m d) fL ∧ w.grownBy w' (some bD) := by
  obtain ⟨F, h3, h4⟩ := h.dig
  obtain ⟨kl, hkl⟩ := key_gp (a := a) (c := a + m) (by omega)
  have e : Gp a (a + m) = .agg #[vi (a : Int), vi ((a : Int) + (m : Int))] := by simp [Gp]
  obtain ⟨w', F', hrun, hm, hp, hg⟩ := h3.update keyed_group Tryz.underlying144 hkl (val := dgV d)
  refine ⟨w', by rw [← e]; exact hrun, ?_, hg⟩
  have hgm : GrowM w w' bD bL := GrowM.one hg
  exact ⟨hgm.blk h.mapD h.mapL h.obj, DMap.put h4 hm hp, h.lis.same (hg.block _ h.mapL.lt (fun e => by injection e with e; exact h.ne e.symm)) (fun A xs hs => hs.growM hgm h.mapD h.mapL), h.ne⟩
theorem four_of {d : List Int} (h : d.length = 4) : ∃ x0 x1 x2 x3, d = [x0, x1, x2, x3] := by
  match d, h with
  | [x0, x1, x2, x3], _ => exact ⟨x0, x1, x2, x3, rfl⟩
set_option maxRecDepth 100000 in
set_option maxHeartbeats 1000000 in
theorem work_no (p S b s k z y bD bL : Nat) [NeZero p] (oo : Nat → Nat → Fin p) (A0 : Option Addr) (n0 c0 : Nat) (l : List Int) (hl : l.length = n0) (hn0 : n0 ≤ 65536) (hup : Asc l) (AR : Option Addr) (nR cR : Nat) (v3 : Value)
    (a m : Nat) (h1 : 1 ≤ m) (ha : a + m ≤ 65536) (hsh : shownB l a m = false) (x : List Int) (ns : List (List Int)) (An : Option Addr) (nn cn : Nat) (hnn : (x :: ns).length = nn) (hcn : nn ≤ cn) (hx4 : x.length = 4) (fD fL : GF)
    (w : World) (F : Fld w S b p) (G : Spg w s b k z oo) (Y : Way w y bD bL fD fL) (hp : SL w A0 l) (hT : TB w An (x :: ns)) :
    Calls Tryz.prog 109 #[.pointer (some ⟨y, 0, none⟩), .pointer (some ⟨s, 0, none⟩), .agg #[.slice A0 n0 c0, .slice AR nR cR, v3], Gp a (a + m), .slice An nn cn] w
      (WorkIs y bD bL ((updF fD a m (fvs (els p x)), fL), ns) w) := by
  have hsl := block_lt_of_cell G.c0
  have hpm := F.max
  obtain ⟨ad, A1, n1, c1, rfl, hb1, hc1, hl1, hn1, hs1, hi1⟩ := hT 0 (by simp)
  have hTt := hT.tail
  have ead : ad.add 0 = ad := by simp [Addr.add]
  rw [ead] at hb1 hc1
  change x.length = n1 at hl1
  change SL w A1 x at hs1
  have hi1' : ∀ j ∈ x, I64 j := hi1
  obtain ⟨W, hW⟩ : ∃ W, W = (w.alloc (.cells #[.slice A0 n0 c0, .slice AR nR cR, v3] 79)).alloc (.cells #[vi a, vi ((a : Int) + (m : Int))] 100) := ⟨_, rfl⟩
  have hb0 : Below w.heap.size w W := by rw [hW]; exact ((Below.refl _ _).alloc (Nat.le_refl _) _).alloc (by simp) _
  have hB7 := (Blk.new w 79 #[.slice A0 n0 c0, .slice AR nR cR, v3]).alloc (.cells #[vi a, vi ((a : Int) + (m : Int))] 100)
  have hB8 := Blk.new (w.alloc (.cells #[.slice A0 n0 c0, .slice AR nR cR, v3] 79)) 100 #[vi a, vi ((a : Int) + (m : Int))]
  rw [← hW] at hB7 hB8
  rw [show (w.alloc (.cells #[.slice A0 n0 c0, .slice AR nR cR, v3] 79)).heap.size = w.heap.size + 1 by simp] at hB8
  have d0 := (hB7.cell 0).trans (show _ = some (.slice A0 n0 c0) from rfl)
  have HSH := Lib.hid (shows_any A0 n0 c0 l hl hn0 hup a m ha W (hp.below hb0))
  rw [hsh] at HSH
  have HB0 := Lib.hid hb0
  have HB8 := Lib.hid hB8
  have HWE := Lib.hid hW
  have HEL := Lib.hid (fun W' (hs : SL W' A1 x) hc => elements_any p b hpm A1 n1 c1 x hl1 hi1' (by omega) W' hs hc)
  have HF := Lib.hid F
  have HG := Lib.hid G
  have HY := Lib.hid Y
  have HSF := Lib.hid (fun W' (G : Spg W' s b k z oo) => sfield_s s b k z oo W' G)
  have HS1 := Lib.hid hs1
  have HC1 := Lib.hid hc1
  have HTT := Lib.hid hTt
  have HLN := Lib.hid hnn
  have hd4 : (fvs (els p x)).length = 4 := by simp [fvs, els, hx4]
  obtain ⟨d, hd⟩ : ∃ d, d = fvs (els p x) := ⟨_, rfl⟩
  rw [← hd] at hd4 HEL ⊢
  obtain ⟨x0, x1, x2, x3, hd'⟩ := four_of hd4
  subst hd'
  have nn1 : (1 : Int) ≤ (nn : Int) := by simp at hnn; omega
  have nn0 : (0 : Int) < (nn : Int) := by omega
  have nnN : 0 < nn := by omega
  have hta := fun (W : World) (g c : Nat) => run_arrayAt (P := Tryz.prog) (w := W) 149 3 4 (some ⟨g, 0, none⟩) 4 c Tryz.underlying149 (Nat.le_refl _)
  have nn2 : (nn : Int) ≤ (cn : Int) := by omega
  rw [hW] at d0 HSH
  clear hW hb0 hB7 hB8 hsh Y F G hp hT hTt hs1 hc1 hi1 hi1' hl1 hnn hd hd4 hx4 hl hup ead
  go_enter Tryz.func109, Tryz.ntmps109
  go_wp2_with fail
  refine HSH.out.mono ?_
  rintro _ w3 ⟨rfl, hb3⟩
  go_wp2_with fail
  rw [← HWE.out] at hb3
  have hb03 : Below w.heap.size w w3 := HB0.out.trans (hb3.mono HB0.out.size)
  have HB03 := Lib.hid hb03
  have KX : Hid (∀ W', Below w3.heap.size w3 W' → Fld W' S b p ∧ Spg W' s b k z oo ∧ SL W' A1 x ∧ Way W' y bD bL fD fL ∧ Below w.heap.size w W') := Lib.hid fun W' hb => by
    have hb' := HB03.out.trans (hb.mono HB03.out.size)
    exact ⟨HF.out.below hb' HF.out.le, HG.out.below hb' hsl, HS1.out.below hb', HY.out.below hb', hb'⟩
  have hB8' := Blk.below HB8.out hb3 HB8.out.lt
  have KS : Hid (∀ W', Below w3.heap.size w3 W' → W'.cell? ⟨y, 0, none⟩ = some (.map (some bD)) ∧ W'.cell? ⟨w.heap.size + 1, 0, none⟩ = some (vi a) ∧ W'.cell? ⟨w.heap.size + 1, 1, none⟩ = some (vi ((a : Int) + m)) ∧ W'.cell? ad = some (.slice A1 n1 c1)) := Lib.hid fun W' hb => by
    have hq := Blk.below hB8' hb hB8'.lt
    have hb' := HB03.out.trans (hb.mono HB03.out.size)
    exact ⟨((HY.out.below hb').obj.cell 0).trans rfl, (hq.cell 0).trans rfl, (hq.cell 1).trans rfl, (hb'.cell (p := ad) hb1).trans HC1.out⟩
  have hb33 : Below w3.heap.size w3 w3.drew := below_drewN (Below.refl _ _) 1
  clear hB8' hb3 hb03
  refine wp_region_held_drew (S := fun w' => w'.cell? ⟨y, 0, none⟩ = some (.map (some bD)) ∧ w'.cell? ⟨w.heap.size + 1, 0, none⟩ = some (vi a) ∧ w'.cell? ⟨w.heap.size + 1, 1, none⟩ = some (vi ((a : Int) + m)) ∧ w'.cell? ad = some (.slice A1 n1 c1)) (by kernel_rfl) (KS.out _ hb33) (fun hHeld => ?_)
  refine wpAnyH_take_at (i := 0) rfl rfl (by kernel_rfl) (by kernel_rfl) (by kernel_rfl) (fun _ _ _ h => h) (Or.inl ⟨by rfl, by (intro w hSw; (try dsimp only at hSw); go_simp; try with_reducible rfl)⟩) (by assumption) ?_
  (try simp only [Act.put, List.setIfInBounds_toArray, List.set_cons_zero, List.set_cons_succ])
  refine wpAnyH_take_at (i := 1) rfl rfl (by kernel_rfl) (by kernel_rfl) (by kernel_rfl) (fun _ _ _ h => h) (Or.inl ⟨by rfl, by (intro w hSw; (try dsimp only at hSw); go_simp; try with_reducible rfl)⟩) (by assumption) ?_
  (try simp only [Act.put, List.setIfInBounds_toArray, List.set_cons_zero, List.set_cons_succ])
  refine wpAnyH_take_at (i := 2) rfl rfl (by kernel_rfl) (by kernel_rfl) (by kernel_rfl) (fun _ _ _ h => h) (Or.inl ⟨by rfl, by (intro w hSw; (try dsimp only at hSw); go_simp; try with_reducible rfl)⟩) (by assumption) ?_
  (try simp only [Act.put, List.setIfInBounds_toArray, List.set_cons_zero, List.set_cons_succ])
  refine wpAnyH_take_at (i := 3) rfl rfl (by kernel_rfl) (by kernel_rfl) (by kernel_rfl) (fun _ _ _ h => h) (Or.inl ⟨by rfl, by (intro w hSw; (try dsimp only at hSw); go_simp; try with_reducible rfl)⟩) (by assumption) ?_
  (try simp only [Act.put, List.setIfInBounds_toArray, List.set_cons_zero, List.set_cons_succ])
  refine wpAnyH_take_at (i := 4) rfl rfl (by kernel_rfl) (by kernel_rfl) (by kernel_rfl) (fun _ _ _ h => h) (Or.inl ⟨by rfl, by (intro w hSw; (try dsimp only at hSw); go_simp; try with_reducible rfl)⟩) (by assumption) ?_
  (try simp only [Act.put, List.setIfInBounds_toArray, List.set_cons_zero, List.set_cons_succ])
  refine wpAnyH_take_at (i := 5) rfl rfl (by kernel_rfl) (by kernel_rfl) (by kernel_rfl) (fun _ _ _ h => h) (Or.inl ⟨by rfl, by (intro w hSw; (try dsimp only at hSw); go_simp; try with_reducible rfl)⟩) (by assumption) ?_
  (try simp only [Act.put, List.setIfInBounds_toArray, List.set_cons_zero, List.set_cons_succ])
  refine wpAnyH_take_at (i := 7) rfl rfl (by kernel_rfl) (by kernel_rfl) (by kernel_rfl) (fun _ _ _ h => h) (Or.inl ⟨by rfl, by (intro w hSw; (try dsimp only at hSw); go_simp; try with_reducible rfl)⟩) (by assumption) ?_
  (try simp only [Act.put, List.setIfInBounds_toArray, List.set_cons_zero, List.set_cons_succ])
  refine wpAnyH_take_at (i := 8) rfl rfl (by kernel_rfl) (by kernel_rfl) (by kernel_rfl) (fun _ _ _ h => h) (Or.inl ⟨by rfl, by (intro w hSw; (try dsimp only at hSw); go_simp; try with_reducible rfl)⟩) (by assumption) ?_
  (try simp only [Act.put, List.setIfInBounds_toArray, List.set_cons_zero, List.set_cons_succ])
  refine wpAnyH_take_at (i := 9) rfl rfl (by kernel_rfl) (by kernel_rfl) (by kernel_rfl) (fun _ _ _ h => h) (Or.inl ⟨by rfl, by (intro w hSw; (try dsimp only at hSw); go_simp; try with_reducible rfl)⟩) (by assumption) ?_
  (try simp only [Act.put, List.setIfInBounds_toArray, List.set_cons_zero, List.set_cons_succ])
  refine wpAnyH_ready (rs := [6]) (by kernel_rfl) (by simp) ?_
  refine AllReadyH.cons rfl (fun K hK => ?_) AllReadyH.nil
  go_simp
  refine (HSF.out _ (KX.out _ hb33).2.1).mono ?_
  rintro _ _ ⟨rfl, rfl⟩
  refine hK.out _ _ (by (first | exact KS.out _ (by assumption) | (simp only [Act.put]; exact KS.out _ (by assumption)))) (fun hHeld => ?_)
  clear hK K
  (try simp only [Act.put, List.setIfInBounds_toArray, List.set_cons_zero, List.set_cons_succ])
  refine wpAnyH_ready (rs := [10]) (by kernel_rfl) (by simp) ?_
  refine AllReadyH.cons rfl (fun K hK => ?_) AllReadyH.nil
  go_simp
  refine (HEL.out _ (KX.out _ hb33).2.2.1 (KX.out _ hb33).1.c0).mono ?_
  rintro _ w4 ⟨v4, rfl, ho4, hb4⟩
  obtain ⟨g4, c4, rfl, hg41, hg42⟩ := ho4.block (by simp)
  have q0 := ho4.at_ rfl 0 (by simp)
  have q1 := ho4.at_ rfl 1 (by simp)
  have q2 := ho4.at_ rfl 2 (by simp)
  have q3 := ho4.at_ rfl 3 (by simp)
  simp only [List.length_cons, List.length_nil, List.getElem_cons_zero, List.getElem_cons_succ] at q0 q1 q2 q3 ⊢
  have hb34 := hb33.trans (hb4.mono hb33.size)
  obtain ⟨w5, hrun, hY5, hg5⟩ := (KX.out _ hb34).2.2.2.1.putD h1 ha [x0, x1, x2, x3]
  have HY5 := Lib.hid hY5
  have HG5 := Lib.hid hg5
  change (Instr.mapUpdate _ _ _ (.agg #[vi x0, vi x1, vi x2, vi x3])).run _ _ = _ at hrun
  clear hY5 hg5 ho4
  refine hK.out _ _ (by (first | exact KS.out _ (by assumption) | (simp only [Act.put]; exact KS.out _ (by assumption)))) (fun hHeld => ?_)
  clear hK K
  (try simp only [Act.put, List.setIfInBounds_toArray, List.set_cons_zero, List.set_cons_succ])
  refine wpAnyH_ready (rs := [11]) (by kernel_rfl) (by simp) ?_
  refine AllReadyH.cons rfl (fun K hK => ?_) AllReadyH.nil
  go_simp
  refine hK.out _ _ (by (first | exact KS.out _ (by assumption) | (simp only [Act.put]; exact KS.out _ (by assumption)))) (fun hHeld => ?_)
  clear hK K
  (try simp only [Act.put, List.setIfInBounds_toArray, List.set_cons_zero, List.set_cons_succ])
  refine wpAnyH_ready (rs := [12]) (by kernel_rfl) (by simp) ?_
  refine AllReadyH.cons rfl (fun K hK => ?_) AllReadyH.nil
  go_simp
  refine hK.out _ _ (by (first | exact KS.out _ (by assumption) | (simp only [Act.put]; exact KS.out _ (by assumption)))) (fun hHeld => ?_)
  clear hK K
  (try simp only [Act.put, List.setIfInBounds_toArray, List.set_cons_zero, List.set_cons_succ])
  refine wpAnyH_ready (rs := [13]) (by kernel_rfl) (by simp) ?_
  refine AllReadyH.cons rfl (fun K hK => ?_) AllReadyH.nil
  go_simp
  refine hK.out _ _ ?_ (fun hHeld => ?_)
  · have hb := KS.out _ hb34
    have hm := (KX.out _ hb34).2.2.2.1
    have hg : GrowM w4 w5 bD bL := GrowM.one HG5.out
    exact ⟨hg.cell hm.mapD hm.mapL hb.1, hg.cell hm.mapD hm.mapL hb.2.1, hg.cell hm.mapD hm.mapL hb.2.2.1, hg.cell hm.mapD hm.mapL hb.2.2.2⟩
  clear hK K
  (try simp only [Act.put, List.setIfInBounds_toArray, List.set_cons_zero, List.set_cons_succ])
  refine wpAnyH_done (by kernel_rfl) ?_ _
  clear hHeld
  have hm := (KX.out _ hb34).2.2.2.1
  have hgm : GrowM w w5 bD bL := (GrowM.of (KX.out _ hb34).2.2.2.2).trans (GrowM.one HG5.out)
  have HFIN : Hid (Way w5 y bD bL (updF fD a m [x0, x1, x2, x3]) fL ∧ GrowM w w5 bD bL ∧ TB w5 (some (ad.add 1)) ns) := Lib.hid ⟨HY5.out, hgm, HTT.out.growM hgm HY.out.mapD HY.out.mapL⟩
  clear hm hgm q0 q1 q2 q3 hrun KX KS HSH HEL HSF hta
  have HNS : Hid (ns.length = nn - 1) := Lib.hid (by have := HLN.out; simp at this; omega)
  by_cases hc1 : cn = 1
  · have hn0 : ns = [] := List.eq_nil_of_length_eq_zero (by have := HLN.out; simp at this; omega)
    subst hc1
    have e : nn = 1 := by omega
    subst e
    go_wp2
    go_ret
    exact ⟨_, _, _, rfl, HNS.out, by omega, by rw [hn0]; exact TB.none_ _ _, HFIN.out.1, HFIN.out.2.1⟩
  · go_wp2
    go_ret
    exact ⟨_, _, _, rfl, HNS.out, by omega, HFIN.out.2.2, HFIN.out.1, HFIN.out.2.1⟩
end Go.Proofs.YtonalbdehcmjmaaGreat

/- tree.way.work at a group that is shown: what is laid into both maps; a group of one row. -/
set_option linter.unusedVariables false
namespace Go.Proofs.YtonalbdehcmjmaaGreat
open Go.RowKit Zp Go.MapKept Go.ChangeMaps
theorem LMap.put {w w' : World} {bL a m : Nat} {fL : GF} {F F' : Value → Option Value} {l : List Int} {v : Value} (h : ∀ a m, 1 ≤ m → a + m ≤ 65536 → LIs w (F (Gp a (a + m))) (fL a m)) (hs : ∀ A xs, SL w A xs → SL w' A xs)
    (hm : MapIs Tryz.prog 100 w' bL F') (hp : Put F F' (Gp a (a + m)) v) (hv : LIs w' (some v) (some l)) : LMap w' bL (updF fL a m l) := by
  refine ⟨F', hm, fun a' m' h1 h2 => ?_⟩
  by_cases e : a' = a ∧ m' = m
  · obtain ⟨rfl, rfl⟩ := e
    rw [updF_same, hp.1]; exact hv
  · rw [updF_other _ _ e, hp.2 _ (fun he => e ?_)]
    · exact (h a' m' h1 h2).mono hs
    · have := gp_inj he
      omega
/-- what the four steps of 'w.lists[g], w.digests[g] = l, d' leave -/
structure PutBoth (w : World) (y bD bL a m : Nat) (fD fL : GF) (d l : List Int) (v : Value) (v0 v1 : Value) (s0 s1 : Nat) (w1 w2 w3 w4 : World) : Prop where
  r1 : (Instr.mapEntry 145 (.map (some bL)) (.agg #[vi (a : Int), vi ((a : Int) + (m : Int))])).run Tryz.prog w = .ok (.tuple #[v0, vi (s0 : Int)]) w1
  r2 : (Instr.entryStore 145 (.map (some bL)) (vi (s0 : Int)) v).run Tryz.prog w1 = .ok () w2
  r3 : (Instr.mapEntry 144 (.map (some bD)) (.agg #[vi (a : Int), vi ((a : Int) + (m : Int))])).run Tryz.prog w2 = .ok (.tuple #[v1, vi (s1 : Int)]) w3
  r4 : (Instr.entryStore 144 (.map (some bD)) (vi (s1 : Int)) (dgV d)).run Tryz.prog w3 = .ok () w4
  way : Way w4 y bD bL (updF fD a m d) (updF fL a m l)
  g1 : GrowM w w1 bD bL
  g2 : GrowM w w2 bD bL
  g3 : GrowM w w3 bD bL
  g4 : GrowM w w4 bD bL
theorem Way.putBoth {w : World} {y bD bL a m : Nat} {fD fL : GF} (h : Way w y bD bL fD fL) (h1 : 1 ≤ m) (h2 : a + m ≤ 65536) (d l : List Int) (v : Value) (hv : LIs w (some v) (some l)) :
    ∃ v0 v1 s0 s1 w1 w2 w3 w4, PutBoth w y bD bL a m fD fL d l v v0 v1 s0 s1 w1 w2 w3 w4 := by
  have hmD := h.mapD
  have hmL := h.mapL
  obtain ⟨FL, l1, l2⟩ := h.lis
  obtain ⟨FD, d1, d2⟩ := h.dig
  obtain ⟨kl, hkl⟩ := key_gp (a := a) (c := a + m) (by omega)
  have e : Gp a (a + m) = .agg #[vi (a : Int), vi ((a : Int) + (m : Int))] := by simp [Gp]
  obtain ⟨v0, s0, w1, e1, n1, g1⟩ := l1.entry keyed_group Tryz.underlying145 (z := .slice none 0 0) (by kernel_rfl) hkl
  obtain ⟨w2, FL', e2, m2, p2, g2⟩ := n1.store 145 v
  have G1 : GrowM w w1 bD bL := GrowM.two g1
  have G2 : GrowM w w2 bD bL := G1.trans (GrowM.two g2)
  have neDL : some bD ≠ some bL := fun e' => h.ne (Option.some.inj e')
  have neLD : some bL ≠ some bD := fun e' => h.ne (Option.some.inj e').symm
  have d1' := (d1.kept g1 neDL).kept g2 neDL
  obtain ⟨v1, s1, w3, e3, n3, g3⟩ := d1'.entry keyed_group Tryz.underlying144 (z := .agg #[vi 0, vi 0, vi 0, vi 0]) (by kernel_rfl) hkl
  obtain ⟨w4, FD', e4, m4, p4, g4⟩ := n3.store 144 (dgV d)
  have G3 : GrowM w w3 bD bL := G2.trans (GrowM.one g3)
  have G4 : GrowM w w4 bD bL := G3.trans (GrowM.one g4)
  have hs : ∀ A xs, SL w A xs → SL w4 A xs := fun A xs hs => hs.growM G4 hmD hmL
  refine ⟨v0, v1, s0, s1, w1, w2, w3, w4, ⟨by rw [← e]; exact e1, e2, by rw [← e]; exact e3, e4, ?_, G1, G2, G3, G4⟩⟩
  exact ⟨G4.blk hmD hmL h.obj, DMap.put d2 m4 p4, LMap.put l2 hs ((m2.kept g3 neLD).kept g4 neLD) p2 (hv.mono hs), h.ne⟩
end Go.Proofs.YtonalbdehcmjmaaGreat

/- tree.way.work at a group of one row that is shown. -/
set_option linter.unusedVariables false
namespace Go.Proofs.YtonalbdehcmjmaaGreat
open Go.RowKit Zp Go.MapKept Go.ChangeMaps
theorem cell4 {w : World} {g : Nat} {xs : List Int} (h : SL w (some ⟨g, 0, none⟩) xs) (k : Nat) (hk : k < xs.length) : w.cell? ⟨g, k, none⟩ = some (vi xs[k]) := by
  obtain ⟨ad, e, _, hc⟩ := h.at_ hk
  injection e with e
  subst e
  have e2 : (⟨g, 0, none⟩ : Addr).add k = ⟨g, k, none⟩ := by
    unfold Addr.add
    split
    · rename_i h0; subst h0; rfl
    · simp
  rw [e2] at hc
  exact hc
/-- the row that is shown at a place -/
def rowAt (l : List Int) (rs : List (List Int)) (a : Nat) : List Int := rs.getD (lowB l a) []
set_option maxRecDepth 100000 in
set_option maxHeartbeats 1000000 in
theorem work_one (p S b s k z y bD bL : Nat) [NeZero p] (oo : Nat → Nat → Fin p) (A0 : Option Addr) (n0 c0 : Nat) (l : List Int) (hl : l.length = n0) (hn0 : n0 ≤ 65536) (hup : Asc l) (AR : Option Addr) (cR : Nat) (rs : List (List Int)) (hrs : rs.length = n0)
    (hR : ∀ x ∈ rs, x.length * 8 + 80 ≤ 140737488355328) (v3 : Value) (m : Nat) (hm : m = 1)
    (a : Nat) (h1 : 1 ≤ m) (ha : a + m ≤ 65536) (hsh : shownB l a m = true) (ns : List (List Int)) (An : Option Addr) (nn cn : Nat) (hnn : ns.length = nn) (hcn : nn ≤ cn) (fD6 fL6 : GF)
    (w : World) (F : Fld w S b p) (G : Spg w s b k z oo) (hSD : S ≤ bD) (hSL : S ≤ bL) (hsD : s < bD) (hsL : s < bL) (Y : Way w y bD bL fD6 fL6) (hp : SL w A0 l) (hQ : TB w AR rs) (hT : TB w An ns) :
    Calls Tryz.prog 109 #[.pointer (some ⟨y, 0, none⟩), .pointer (some ⟨s, 0, none⟩), .agg #[.slice A0 n0 c0, .slice AR n0 cR, v3], Gp a (a + m), .slice An nn cn] w
      (WorkIs y bD bL ((updF fD6 a m (digL p k (0 :: fvs (els p (rowAt l rs a)))), updF fL6 a m (0 :: fvs (els p (rowAt l rs a)))), ns) w) := by
  have hsl := block_lt_of_cell G.c0
  have hpm := F.max
  have hsh1 : shownB l a 1 = true := by rw [hm] at hsh; exact hsh
  obtain ⟨i, hi⟩ : ∃ i, i = lowB l a := ⟨_, rfl⟩
  obtain ⟨hil, _⟩ := shown_one hup a hsh1
  rw [← hi] at hil
  have hir : i < rs.length := by omega
  obtain ⟨ad, A1, n1, c1, rfl, hb1, hc1, hl1, hn1, hs1, hi1⟩ := hQ i hir
  have hrl := hR _ (List.getElem_mem hir)
  have ex : rowAt l rs a = rs[i] := by unfold rowAt; rw [← hi, List.getD_eq_getElem?_getD, List.getElem?_eq_getElem hir]; rfl
  rw [ex]
  generalize rs[i] = x at hl1 hs1 hi1 hrl
  obtain ⟨W, hW⟩ : ∃ W, W = (w.alloc (.cells #[.slice A0 n0 c0, .slice (some ad) n0 cR, v3] 79)).alloc (.cells #[vi a, vi ((a : Int) + (m : Int))] 100) := ⟨_, rfl⟩
  have hb0 : Below w.heap.size w W := by rw [hW]; exact ((Below.refl _ _).alloc (Nat.le_refl _) _).alloc (by simp) _
  have hB7 := (Blk.new w 79 #[.slice A0 n0 c0, .slice (some ad) n0 cR, v3]).alloc (.cells #[vi a, vi ((a : Int) + (m : Int))] 100)
  have hB8 := Blk.new (w.alloc (.cells #[.slice A0 n0 c0, .slice (some ad) n0 cR, v3] 79)) 100 #[vi a, vi ((a : Int) + (m : Int))]
  rw [← hW] at hB7 hB8
  rw [show (w.alloc (.cells #[.slice A0 n0 c0, .slice (some ad) n0 cR, v3] 79)).heap.size = w.heap.size + 1 by simp] at hB8
  have d0 := (hB7.cell 0).trans (show _ = some (.slice A0 n0 c0) from rfl)
  have HSH := Lib.hid (shows_any A0 n0 c0 l hl hn0 hup a m ha W (hp.below hb0))
  rw [hsh] at HSH
  have HBS := Lib.hid (fun W hs => bsearch_any A0 n0 c0 l hl (by omega) hup (a : Int) W hs)
  rw [← hi] at HBS
  have HB0 := Lib.hid hb0
  have HB7 := Lib.hid hB7
  have HB8 := Lib.hid hB8
  have HWE := Lib.hid hW
  have HEL := Lib.hid (fun W' (hs : SL W' A1 x) hc => elements_any p b hpm A1 n1 c1 x hl1 hi1 (by omega) W' hs hc)
  have HF := Lib.hid F
  have HG := Lib.hid G
  have HY := Lib.hid Y
  have HSF := Lib.hid (fun W' (G : Spg W' s b k z oo) => sfield_s s b k z oo W' G)
  have HS1 := Lib.hid hs1
  have HC1 := Lib.hid hc1
  have HTT := Lib.hid hT
  have HP0 := Lib.hid hp
  have HLN := Lib.hid hnn
  have hdl : (fvs (els p x)).length = n1 := by simp [fvs, els, hl1]
  have hdi : ∀ j ∈ fvs (els p x), I64 j := fun j hj => by
    obtain ⟨t, _, rfl⟩ := List.mem_map.1 hj
    exact i64_fv _ hpm
  obtain ⟨d, hd⟩ : ∃ d, d = fvs (els p x) := ⟨_, rfl⟩
  rw [← hd] at hdl hdi HEL ⊢
  have HDL := Lib.hid hdl
  have HDI := Lib.hid hdi
  have i0 : (0 : Int) ≤ (i : Int) := by omega
  have i1 : (i : Int) < (n0 : Int) := by omega
  have HLI := Lib.hid (show n1 * 8 + 80 ≤ 140737488355328 by omega)
  have hta := fun (W : World) (g c : Nat) => run_arrayAt (P := Tryz.prog) (w := W) 149 3 4 (some ⟨g, 0, none⟩) 4 c Tryz.underlying149 (Nat.le_refl _)
  have t1 : ((m : Int) == 1) = true := by subst hm; rfl
  have t2 : ((a : Int) + (m : Int) - (a : Int) == 1) = true := by subst hm; simp; omega
  rw [hW] at d0 HSH
  clear hW hb0 hB7 hB8 hsh hsh1 Y F G hp hQ hT hs1 hc1 hi1 hl1 hnn hd hdl hdi hl hup hi hil hir hrs hR hrl ex hm
  go_enter Tryz.func109, Tryz.ntmps109
  go_wp2_with fail
  refine HSH.out.mono ?_
  rintro _ w3 ⟨rfl, hb3⟩
  rw [← HWE.out] at hb3
  have hb03 : Below w.heap.size w w3 := HB0.out.trans (hb3.mono HB0.out.size)
  have HB03 := Lib.hid hb03
  have hB83 := Blk.below HB8.out hb3 HB8.out.lt
  have hB73 := Blk.below HB7.out hb3 HB7.out.lt
  have e0 := (hB83.cell 0).trans (show _ = some (vi a) from rfl)
  have e1 := (hB83.cell 1).trans (show _ = some (vi ((a : Int) + m)) from rfl)
  have d0 := (hB73.cell 0).trans (show _ = some (.slice A0 n0 c0) from rfl)
  have HB83 := Lib.hid hB83
  have HB73 := Lib.hid hB73
  clear hB83 hB73 hb3 hb03
  go_wp2_with fail
  refine (HBS.out w3 (HP0.out.below HB03.out)).mono ?_
  rintro _ _ ⟨⟨bb, rfl⟩, rfl⟩
  go_wp2_with fail
  clear e0 e1 d0
  have hb33 : Below w3.heap.size w3 w3.drew := below_drewN (Below.refl _ _) 1
  have KX : Hid (∀ W', Below w3.heap.size w3 W' → Fld W' S b p ∧ Spg W' s b k z oo ∧ SL W' A1 x ∧ Way W' y bD bL fD6 fL6 ∧ Below w.heap.size w W') := Lib.hid fun W' hb => by
    have hb' := HB03.out.trans (hb.mono HB03.out.size)
    exact ⟨HF.out.below hb' HF.out.le, HG.out.below hb' hsl, HS1.out.below hb', HY.out.below hb', hb'⟩
  have KS : Hid (∀ W', Below w3.heap.size w3 W' → W'.cell? ⟨w.heap.size, 1, none⟩ = some (.slice (some ad) n0 cR) ∧ W'.cell? (ad.add i) = some (.slice A1 n1 c1)) := Lib.hid fun W' hb => by
    have hq := Blk.below HB73.out hb HB73.out.lt
    have hb' := HB03.out.trans (hb.mono HB03.out.size)
    exact ⟨(hq.cell 1).trans rfl, (hb'.cell (p := ad.add i) hb1).trans HC1.out⟩
  refine wp_region_held_drew (S := fun w' => w'.cell? ⟨w.heap.size, 1, none⟩ = some (.slice (some ad) n0 cR) ∧ w'.cell? (ad.add i) = some (.slice A1 n1 c1)) (by kernel_rfl) (KS.out _ hb33) (fun hHeld => ?_)
  refine wpAnyH_take_at (i := 0) rfl rfl (by kernel_rfl) (by kernel_rfl) (by kernel_rfl) (fun _ _ _ h => h) (Or.inl ⟨by rfl, by (intro w hSw; (try dsimp only at hSw); go_simp; try with_reducible rfl)⟩) (by assumption) ?_
  (try simp only [Act.put, List.setIfInBounds_toArray, List.set_cons_zero, List.set_cons_succ])
  refine wpAnyH_take_at (i := 2) rfl rfl (by kernel_rfl) (by kernel_rfl) (by kernel_rfl) (fun _ _ _ h => h) (Or.inl ⟨by rfl, by (intro w hSw; (try dsimp only at hSw); go_simp; try with_reducible rfl)⟩) (by assumption) ?_
  (try simp only [Act.put, List.setIfInBounds_toArray, List.set_cons_zero, List.set_cons_succ])
  refine wpAnyH_take_at (i := 3) rfl rfl (by kernel_rfl) (by kernel_rfl) (by kernel_rfl) (fun _ _ _ h => h) (Or.inl ⟨by rfl, by (intro w hSw; (try dsimp only at hSw); go_simp; try with_reducible rfl)⟩) (by assumption) ?_
  (try simp only [Act.put, List.setIfInBounds_toArray, List.set_cons_zero, List.set_cons_succ])
  refine wpAnyH_take_at (i := 4) rfl rfl (by kernel_rfl) (by kernel_rfl) (by kernel_rfl) (fun _ _ _ h => h) (Or.inl ⟨by rfl, by (intro w hSw; (try dsimp only at hSw); go_simp; try with_reducible rfl)⟩) (by assumption) ?_
  (try simp only [Act.put, List.setIfInBounds_toArray, List.set_cons_zero, List.set_cons_succ])
  refine wpAnyH_take_at (i := 5) rfl rfl (by kernel_rfl) (by kernel_rfl) (by kernel_rfl) (fun _ _ _ h => h) (Or.inl ⟨by rfl, by (intro w hSw; (try dsimp only at hSw); go_simp; try with_reducible rfl)⟩) (by assumption) ?_
  (try simp only [Act.put, List.setIfInBounds_toArray, List.set_cons_zero, List.set_cons_succ])
  refine wpAnyH_take_at (i := 6) rfl rfl (by kernel_rfl) (by kernel_rfl) (by kernel_rfl) (fun _ _ _ h => h) (Or.inl ⟨by rfl, by (intro w hSw; (try dsimp only at hSw); go_simp; try with_reducible rfl)⟩) (by assumption) ?_
  (try simp only [Act.put, List.setIfInBounds_toArray, List.set_cons_zero, List.set_cons_succ])
  refine wpAnyH_ready (rs := [1]) (by kernel_rfl) (by simp) ?_
  refine AllReadyH.cons rfl (fun K hK => ?_) AllReadyH.nil
  go_simp
  refine (HSF.out _ (KX.out _ hb33).2.1).mono ?_
  rintro _ _ ⟨rfl, rfl⟩
  refine hK.out _ _ (by (first | exact KS.out _ (by assumption) | (simp only [Act.put]; exact KS.out _ (by assumption)))) (fun hHeld => ?_)
  clear hK K
  (try simp only [Act.put, List.setIfInBounds_toArray, List.set_cons_zero, List.set_cons_succ])
  refine wpAnyH_ready (rs := [7]) (by kernel_rfl) (by simp) ?_
  refine AllReadyH.cons rfl (fun K hK => ?_) AllReadyH.nil
  go_simp
  refine (HEL.out _ (KX.out _ hb33).2.2.1 (KX.out _ hb33).1.c0).mono ?_
  rintro _ w4 ⟨v4, rfl, ho4, hb4⟩
  obtain ⟨A4, n4, c4, rfl, hl4, hnc4, _, hs4⟩ := ho4.shapeN
  have hb34 := hb33.trans (hb4.mono hb33.size)
  have hb35 := hb34.alloc hb34.size (.cells #[.slice A4 n4 c4] 22)
  have hlen4 : n4 * 8 + 80 ≤ 140737488355328 := by have := HDL.out; have := HLI.out; omega
  have hj := joined_any 0 (some ⟨w4.heap.size, 0, none⟩) 1 1 [d] rfl (by omega) (by simp; omega) (w4.alloc (.cells #[.slice A4 n4 c4] 22)) (tb_lit1 hs4 hl4 (by omega) HDI.out)
  rw [show [d].flatten = d by simp] at hj
  have HJ := Lib.hid hj
  have HL4 := Lib.hid (And.intro hl4 hlen4)
  clear hj hs4 ho4 hl4 hlen4 hnc4 hb4
  refine hK.out _ _ (by (first | exact KS.out _ (by assumption) | (simp only [Act.put]; exact KS.out _ (by assumption)))) (fun hHeld => ?_)
  clear hK K
  (try simp only [Act.put, List.setIfInBounds_toArray, List.set_cons_zero, List.set_cons_succ])
  refine wpAnyH_ready (rs := [8]) (by kernel_rfl) (by simp) ?_
  refine AllReadyH.cons rfl (fun K hK => ?_) AllReadyH.nil
  go_simp
  refine hK.out _ _ (by (first | exact KS.out _ (by assumption) | (simp only [Act.put]; exact KS.out _ (by assumption)))) (fun hHeld => ?_)
  clear hK K
  (try simp only [Act.put, List.setIfInBounds_toArray, List.set_cons_zero, List.set_cons_succ])
  refine wpAnyH_ready (rs := [9]) (by kernel_rfl) (by simp) ?_
  refine AllReadyH.cons rfl (fun K hK => ?_) AllReadyH.nil
  go_simp
  refine HJ.out.mono ?_
  rintro _ w6 ⟨v6, rfl, ho6, hb6⟩
  obtain ⟨A5, n5, c5, rfl, hl5, _, _, hs5⟩ := ho6.shapeN
  have hb36 := hb35.trans (hb6.mono hb35.size)
  have hL5 : n5 * 8 + 64 ≤ 140737488355328 ∧ 0 < n5 := by have := HL4.out; simp at hl5; omega
  obtain ⟨L, hL⟩ : ∃ L, L = 0 :: d := ⟨_, rfl⟩
  rw [← hL] at hl5 hs5
  have hLI : ∀ j ∈ L, I64 j := by
    rw [hL]
    intro j hj
    rcases List.mem_cons.1 hj with rfl | hj
    · constructor <;> omega
    · exact HDI.out j hj
  have HL5 := Lib.hid (And.intro hl5 (And.intro hLI hL5))
  have HEQ := Lib.hid hL
  have hx6 := KX.out _ hb36
  have HX6 := Lib.hid (And.intro hx6.1 (And.intro hx6.2.1 (And.intro hs5 (And.intro hx6.2.2.2.1 (GrowM.of (c := bD) (m := bL) hx6.2.2.2.2)))))
  have HB86 := Lib.hid (Blk.below HB83.out hb36 HB83.out.lt)
  clear hL hl5 hs5 hLI hL5 hx6 ho6 hb6
  refine hK.out _ _ (by (first | exact KS.out _ (by assumption) | (simp only [Act.put]; exact KS.out _ (by assumption)))) (fun hHeld => ?_)
  clear hK K
  (try simp only [Act.put, List.setIfInBounds_toArray, List.set_cons_zero, List.set_cons_succ])
  refine wpAnyH_ready (rs := [10]) (by kernel_rfl) (by simp) ?_
  refine AllReadyH.cons rfl (fun K hK => ?_) AllReadyH.nil
  go_simp
  refine hK.out _ _ (KS.out _ hb36) (fun hHeld => ?_)
  clear hK K
  (try simp only [Act.put, List.setIfInBounds_toArray, List.set_cons_zero, List.set_cons_succ])
  refine wpAnyH_done (by kernel_rfl) ?_ _
  clear hHeld KX KS hb33 hb34 hb35 hb36
  go_wp2_with fail
  have hb66 : Below w6.heap.size w6 w6.drew := below_drewN (Below.refl _ _) 1
  have k66 : GrowM w6 w6.drew bD bL := GrowM.of hb66
  have HHS := Lib.hid (fun W' (F : Fld W' S b p) (G : Spg W' s b k z oo) (hs : SL W' A5 L) => (hash_any p S b s k z oo A5 n5 c5 L HL5.out.1 HL5.out.2.1 HL5.out.2.2.1 W' F G hs).mono fun e w' h => h.root F.max)
  have KX : Hid (∀ W', Below w6.heap.size w6 W' → Fld W' S b p ∧ Spg W' s b k z oo ∧ SL W' A5 L ∧ Way W' y bD bL fD6 fL6) := Lib.hid fun W' hb => ⟨HX6.out.1.below hb HX6.out.1.le, HX6.out.2.1.below hb (block_lt_of_cell HX6.out.2.1.c0), HX6.out.2.2.1.below hb, HX6.out.2.2.2.1.below hb⟩
  have KS : Hid (∀ W', GrowM w6 W' bD bL → W'.cell? ⟨y, 0, none⟩ = some (.map (some bD)) ∧ W'.cell? ⟨y, 1, none⟩ = some (.map (some bL)) ∧ W'.cell? ⟨w.heap.size + 1, 0, none⟩ = some (vi a) ∧ W'.cell? ⟨w.heap.size + 1, 1, none⟩ = some (vi ((a : Int) + (m : Int)))) := Lib.hid fun W' hb => by
    have hmD := HX6.out.2.2.2.1.mapD
    have hmL := HX6.out.2.2.2.1.mapL
    have hq := hb.blk hmD hmL HB86.out
    have ho := hb.blk hmD hmL HX6.out.2.2.2.1.obj
    exact ⟨(ho.cell 0).trans rfl, (ho.cell 1).trans rfl, (hq.cell 0).trans rfl, (hq.cell 1).trans rfl⟩
  refine wp_region_held_drew (S := fun w' => w'.cell? ⟨y, 0, none⟩ = some (.map (some bD)) ∧ w'.cell? ⟨y, 1, none⟩ = some (.map (some bL)) ∧ w'.cell? ⟨w.heap.size + 1, 0, none⟩ = some (vi a) ∧ w'.cell? ⟨w.heap.size + 1, 1, none⟩ = some (vi ((a : Int) + (m : Int)))) (by kernel_rfl) (KS.out _ k66) (fun hHeld => ?_)
  refine wpAnyH_take_at (i := 0) rfl rfl (by kernel_rfl) (by kernel_rfl) (by kernel_rfl) (fun _ _ _ h => h) (Or.inl ⟨by rfl, by (intro w hSw; (try dsimp only at hSw); go_simp; try with_reducible rfl)⟩) (by assumption) ?_
  (try simp only [Act.put, List.setIfInBounds_toArray, List.set_cons_zero, List.set_cons_succ])
  refine wpAnyH_take_at (i := 1) rfl rfl (by kernel_rfl) (by kernel_rfl) (by kernel_rfl) (fun _ _ _ h => h) (Or.inl ⟨by rfl, by (intro w hSw; (try dsimp only at hSw); go_simp; try with_reducible rfl)⟩) (by assumption) ?_
  (try simp only [Act.put, List.setIfInBounds_toArray, List.set_cons_zero, List.set_cons_succ])
  refine wpAnyH_take_at (i := 2) rfl rfl (by kernel_rfl) (by kernel_rfl) (by kernel_rfl) (fun _ _ _ h => h) (Or.inl ⟨by rfl, by (intro w hSw; (try dsimp only at hSw); go_simp; try with_reducible rfl)⟩) (by assumption) ?_
  (try simp only [Act.put, List.setIfInBounds_toArray, List.set_cons_zero, List.set_cons_succ])
  refine wpAnyH_take_at (i := 3) rfl rfl (by kernel_rfl) (by kernel_rfl) (by kernel_rfl) (fun _ _ _ h => h) (Or.inl ⟨by rfl, by (intro w hSw; (try dsimp only at hSw); go_simp; try with_reducible rfl)⟩) (by assumption) ?_
  (try simp only [Act.put, List.setIfInBounds_toArray, List.set_cons_zero, List.set_cons_succ])
  refine wpAnyH_take_at (i := 4) rfl rfl (by kernel_rfl) (by kernel_rfl) (by kernel_rfl) (fun _ _ _ h => h) (Or.inl ⟨by rfl, by (intro w hSw; (try dsimp only at hSw); go_simp; try with_reducible rfl)⟩) (by assumption) ?_
  (try simp only [Act.put, List.setIfInBounds_toArray, List.set_cons_zero, List.set_cons_succ])
  refine wpAnyH_take_at (i := 5) rfl rfl (by kernel_rfl) (by kernel_rfl) (by kernel_rfl) (fun _ _ _ h => h) (Or.inl ⟨by rfl, by (intro w hSw; (try dsimp only at hSw); go_simp; try with_reducible rfl)⟩) (by assumption) ?_
  (try simp only [Act.put, List.setIfInBounds_toArray, List.set_cons_zero, List.set_cons_succ])
  refine wpAnyH_take_at (i := 6) rfl rfl (by kernel_rfl) (by kernel_rfl) (by kernel_rfl) (fun _ _ _ h => h) (Or.inl ⟨by rfl, by (intro w hSw; (try dsimp only at hSw); go_simp; try with_reducible rfl)⟩) (by assumption) ?_
  (try simp only [Act.put, List.setIfInBounds_toArray, List.set_cons_zero, List.set_cons_succ])
  refine wpAnyH_take_at (i := 7) rfl rfl (by kernel_rfl) (by kernel_rfl) (by kernel_rfl) (fun _ _ _ h => h) (Or.inl ⟨by rfl, by (intro w hSw; (try dsimp only at hSw); go_simp; try with_reducible rfl)⟩) (by assumption) ?_
  (try simp only [Act.put, List.setIfInBounds_toArray, List.set_cons_zero, List.set_cons_succ])
  refine wpAnyH_take_at (i := 8) rfl rfl (by kernel_rfl) (by kernel_rfl) (by kernel_rfl) (fun _ _ _ h => h) (Or.inl ⟨by rfl, by (intro w hSw; (try dsimp only at hSw); go_simp; try with_reducible rfl)⟩) (by assumption) ?_
  (try simp only [Act.put, List.setIfInBounds_toArray, List.set_cons_zero, List.set_cons_succ])
  refine wpAnyH_take_at (i := 9) rfl rfl (by kernel_rfl) (by kernel_rfl) (by kernel_rfl) (fun _ _ _ h => h) (Or.inl ⟨by rfl, by (intro w hSw; (try dsimp only at hSw); go_simp; try with_reducible rfl)⟩) (by assumption) ?_
  (try simp only [Act.put, List.setIfInBounds_toArray, List.set_cons_zero, List.set_cons_succ])
  refine wpAnyH_take_at (i := 10) rfl rfl (by kernel_rfl) (by kernel_rfl) (by kernel_rfl) (fun _ _ _ h => h) (Or.inl ⟨by rfl, by (intro w hSw; (try dsimp only at hSw); go_simp; try with_reducible rfl)⟩) (by assumption) ?_
  (try simp only [Act.put, List.setIfInBounds_toArray, List.set_cons_zero, List.set_cons_succ])
  refine wpAnyH_take_at (i := 11) rfl rfl (by kernel_rfl) (by kernel_rfl) (by kernel_rfl) (fun _ _ _ h => h) (Or.inl ⟨by rfl, by (intro w hSw; (try dsimp only at hSw); go_simp; try with_reducible rfl)⟩) (by assumption) ?_
  (try simp only [Act.put, List.setIfInBounds_toArray, List.set_cons_zero, List.set_cons_succ])
  refine wpAnyH_take_at (i := 12) rfl rfl (by kernel_rfl) (by kernel_rfl) (by kernel_rfl) (fun _ _ _ h => h) (Or.inl ⟨by rfl, by (intro w hSw; (try dsimp only at hSw); go_simp; try with_reducible rfl)⟩) (by assumption) ?_
  (try simp only [Act.put, List.setIfInBounds_toArray, List.set_cons_zero, List.set_cons_succ])
  refine wpAnyH_ready (rs := [13]) (by kernel_rfl) (by simp) ?_
  refine AllReadyH.cons rfl (fun K hK => ?_) AllReadyH.nil
  go_simp
  refine (HHS.out _ (KX.out _ hb66).1 (KX.out _ hb66).2.1 (KX.out _ hb66).2.2.1).mono ?_
  rintro _ w7 ⟨g7, rfl, hx7, s7, l7, i7, n7, hb7⟩
  have hb67 : Below w6.heap.size w6 w7 := hb66.trans (hb7.mono hb66.size)
  have k67 : GrowM w6 w7 bD bL := GrowM.of hb67
  obtain ⟨d7, hd7⟩ : ∃ d7, d7 = digL p k L := ⟨_, rfl⟩
  rw [← hd7] at s7 l7 i7
  have HD7 := Lib.hid hd7
  obtain ⟨x0, x1, x2, x3, hdx⟩ := four_of l7
  rw [hdx] at s7 HD7
  have c0 := cell4 s7 0 (by simp)
  have c1 := cell4 s7 1 (by simp)
  have c2 := cell4 s7 2 (by simp)
  have c3 := cell4 s7 3 (by simp)
  simp only [List.getElem_cons_zero, List.getElem_cons_succ] at c0 c1 c2 c3
  clear s7 l7 i7 hd7 hdx hx7 d7
  obtain ⟨v0, v1, t0, t1, u1, u2, u3, u4, HP⟩ := (KX.out _ hb67).2.2.2.putBoth h1 ha [x0, x1, x2, x3] L (.slice A5 n5 c5) ⟨A5, n5, c5, rfl, HL5.out.1, HL5.out.2.2.2, by have := HL5.out.2.2.1; omega, (KX.out _ hb67).2.2.1, HL5.out.2.1⟩
  have HPP := Lib.hid HP
  have r1 := HP.r1
  have r2 := HP.r2
  have r3 := HP.r3
  have r4 := HP.r4
  change (Instr.entryStore _ _ _ (.agg #[vi x0, vi x1, vi x2, vi x3])).run _ _ = _ at r4
  have k61 := k67.trans HP.g1
  have k62 := k67.trans HP.g2
  have k63 := k67.trans HP.g3
  have k64 := k67.trans HP.g4
  clear HP hb7
  refine hK.out _ _ (by (first | exact KS.out _ (by assumption) | (simp only [Act.put]; exact KS.out _ (by assumption)))) (fun hHeld => ?_)
  clear hK K
  (try simp only [Act.put, List.setIfInBounds_toArray, List.set_cons_zero, List.set_cons_succ])
  refine wpAnyH_ready (rs := [14]) (by kernel_rfl) (by simp) ?_
  refine AllReadyH.cons rfl (fun K hK => ?_) AllReadyH.nil
  go_simp
  refine hK.out _ _ (by (first | exact KS.out _ (by assumption) | (simp only [Act.put]; exact KS.out _ (by assumption)))) (fun hHeld => ?_)
  clear hK K
  (try simp only [Act.put, List.setIfInBounds_toArray, List.set_cons_zero, List.set_cons_succ])
  refine wpAnyH_ready (rs := [15]) (by kernel_rfl) (by simp) ?_
  refine AllReadyH.cons rfl (fun K hK => ?_) AllReadyH.nil
  go_simp
  refine hK.out _ _ (by (first | exact KS.out _ (by assumption) | (simp only [Act.put]; exact KS.out _ (by assumption)))) (fun hHeld => ?_)
  clear hK K
  (try simp only [Act.put, List.setIfInBounds_toArray, List.set_cons_zero, List.set_cons_succ])
  refine wpAnyH_ready (rs := [16]) (by kernel_rfl) (by simp) ?_
  refine AllReadyH.cons rfl (fun K hK => ?_) AllReadyH.nil
  go_simp
  refine hK.out _ _ (by (first | exact KS.out _ (by assumption) | (simp only [Act.put]; exact KS.out _ (by assumption)))) (fun hHeld => ?_)
  clear hK K
  (try simp only [Act.put, List.setIfInBounds_toArray, List.set_cons_zero, List.set_cons_succ])
  refine wpAnyH_ready (rs := [17]) (by kernel_rfl) (by simp) ?_
  refine AllReadyH.cons rfl (fun K hK => ?_) AllReadyH.nil
  go_simp
  refine hK.out _ _ (by (first | exact KS.out _ (by assumption) | (simp only [Act.put]; exact KS.out _ (by assumption)))) (fun hHeld => ?_)
  clear hK K
  (try simp only [Act.put, List.setIfInBounds_toArray, List.set_cons_zero, List.set_cons_succ])
  refine wpAnyH_ready (rs := [18]) (by kernel_rfl) (by simp) ?_
  refine AllReadyH.cons rfl (fun K hK => ?_) AllReadyH.nil
  go_simp
  refine hK.out _ _ (by (first | exact KS.out _ (by assumption) | (simp only [Act.put]; exact KS.out _ (by assumption)))) (fun hHeld => ?_)
  clear hK K
  (try simp only [Act.put, List.setIfInBounds_toArray, List.set_cons_zero, List.set_cons_succ])
  refine wpAnyH_ready (rs := [19]) (by kernel_rfl) (by simp) ?_
  refine AllReadyH.cons rfl (fun K hK => ?_) AllReadyH.nil
  go_simp
  refine hK.out _ _ (by (first | exact KS.out _ (by assumption) | (simp only [Act.put]; exact KS.out _ (by assumption)))) (fun hHeld => ?_)
  clear hK K
  (try simp only [Act.put, List.setIfInBounds_toArray, List.set_cons_zero, List.set_cons_succ])
  refine wpAnyH_ready (rs := [20]) (by kernel_rfl) (by simp) ?_
  refine AllReadyH.cons rfl (fun K hK => ?_) AllReadyH.nil
  go_simp
  refine hK.out _ _ (by (first | exact KS.out _ (by assumption) | (simp only [Act.put]; exact KS.out _ (by assumption)))) (fun hHeld => ?_)
  clear hK K
  (try simp only [Act.put, List.setIfInBounds_toArray, List.set_cons_zero, List.set_cons_succ])
  refine wpAnyH_ready (rs := [21]) (by kernel_rfl) (by simp) ?_
  refine AllReadyH.cons rfl (fun K hK => ?_) AllReadyH.nil
  go_simp
  refine hK.out _ _ (KS.out _ k64) (fun hHeld => ?_)
  clear hK K
  (try simp only [Act.put, List.setIfInBounds_toArray, List.set_cons_zero, List.set_cons_succ])
  refine wpAnyH_done (by kernel_rfl) ?_ _
  clear hHeld r1 r2 r3 r4 c0 c1 c2 c3 HHS KX KS
  have hgm : GrowM w u4 bD bL := HX6.out.2.2.2.2.trans k64
  have HFIN : Hid (Way u4 y bD bL (updF fD6 a m [x0, x1, x2, x3]) (updF fL6 a m L) ∧ GrowM w u4 bD bL ∧ TB u4 An ns) := Lib.hid ⟨HPP.out.way, hgm, HTT.out.growM hgm HY.out.mapD HY.out.mapL⟩
  clear hgm k61 k62 k63 k64 k66 k67 hb66 hb67
  go_wp2
  go_ret
  rw [← HEQ.out, ← HD7.out]
  exact ⟨_, _, _, rfl, HLN.out, hcn, HFIN.out.2.2, HFIN.out.1, HFIN.out.2.1⟩
end Go.Proofs.YtonalbdehcmjmaaGreat
