/- A bundle of texts: Nd, Ne, Nf, Ng, Nh, Shl, Srt, Ni, Nj. -/
import Derived.Test.YtijhajkakmohnaaGreatDoorB08
import Derived.Test.YtijhajkakmohnaaGreatDoorB05
import Derived.Test.YtijhajkakmohnaaGreatDoorB00
import Derived.Test.YtijhajkakmohnaaGreatDoorB01
import Derived.Deep.LoopGhost
import Derived.Deep.QuietTactic
import Derived.BigQuiet
import Derived.IntWalk
import Derived.Test.YtijhajkakmohnaaGreatDoorB07
import Derived.Test.YtijhajkakmohnaaGreatDoorB03
import Derived.Test.YtijhajkakmohnaaGreatDoorChecked
import Derived.Shelf.SlicesG.CompactI
import Derived.Shelf.SlicesG.Equal
import Derived.Shelf.SortM.Plain
import Derived.Shelf.SortM.SortNone
/- The reference's Root and Nodes. -/
set_option linter.unusedVariables false
namespace Go.Proofs.YtijhajkakmohnaaGreatDoor
open Go.RowKit Zp
theorem rootD_shift {H : List Int → List Int} {r r' : Nat → List Int} {j : Nat} : ∀ (n a : Nat), (∀ i, a ≤ i → i < a + n → r i = r' (i + j)) → 1 ≤ n → rootD H r a n = rootD H r' (a + j) n := by
  intro n
  induction n using Nat.strongRecOn with
  | ind n ih =>
    intro a h hn
    by_cases h2 : 2 ≤ n
    · have hl := leftN_lt h2
      rw [rootD_two H r a h2, rootD_two H r' (a + j) h2, ih (leftN n) (by omega) a (fun i h1 h2 => h i h1 (by omega)) (by omega), ih (n - leftN n) (by omega) (a + leftN n) (fun i h1 h2 => h i (by omega) (by omega)) (by omega)]
      rw [show a + leftN n + j = a + j + leftN n by omega]
    · have e : n = 1 := by omega
      subst e
      rw [rootD_one H r a h2, rootD_one H r' (a + j) h2, h a (Nat.le_refl _) (by omega)]
theorem rowF_take {ls : List (List Int)} {i j : Nat} (h : i < j) : rowF (ls.take j) i = rowF ls i := by
  unfold rowF
  rw [List.getD_eq_getElem?_getD, List.getD_eq_getElem?_getD, List.getElem?_take, if_pos h]
theorem rowF_drop {ls : List (List Int)} {i j : Nat} : rowF (ls.drop j) i = rowF ls (i + j) := by
  unfold rowF
  rw [List.getD_eq_getElem?_getD, List.getD_eq_getElem?_getD, List.getElem?_drop, Nat.add_comm]
theorem rootD_halves {H : List Int → List Int} {ls : List (List Int)} {n : Nat} (h2 : 2 ≤ n) : rootD H (rowF ls) 0 n = H (1 :: (rootD H (rowF (ls.take (leftN n))) 0 (leftN n) ++ rootD H (rowF (ls.drop (leftN n))) 0 (n - leftN n))) := by
  have hl := leftN_lt h2
  rw [rootD_two H _ 0 h2, rootD_shift (r := rowF (ls.take (leftN n))) (r' := rowF ls) (j := 0) (leftN n) 0 (fun i _ hi => by rw [rowF_take (by omega)]; rfl) (by omega),
    rootD_shift (r := rowF (ls.drop (leftN n))) (r' := rowF ls) (j := leftN n) (n - leftN n) 0 (fun i _ hi => by rw [rowF_drop]) (by omega)]
theorem TB.take {w : World} {A : Option Addr} {ls : List (List Int)} (h : TB w A ls) (j : Nat) : TB w A (ls.take j) := fun k hk => by
  have hk' : k < ls.length := by rw [List.length_take] at hk; omega
  obtain ⟨ad, A1, n, c, h1, h2, h3, h4, h5⟩ := h k hk'
  have e : (ls.take j)[k] = ls[k] := by simp
  rw [e]
  exact ⟨ad, A1, n, c, h1, h2, h3, h4, h5⟩
theorem TB.drop {w : World} {ad : Addr} {ls : List (List Int)} (h : TB w (some ad) ls) (j : Nat) : TB w (some (ad.add j)) (ls.drop j) := fun k hk => by
  have hk' : j + k < ls.length := by rw [List.length_drop] at hk; omega
  obtain ⟨ad', A1, n, c, h1, h2, h3, h4, h5⟩ := h (j + k) hk'
  injection h1 with h1
  subst h1
  have e : (ls.drop j)[k] = ls[j + k] := by simp
  rw [e]
  exact ⟨ad.add j, A1, n, c, rfl, by rw [add_of_add]; exact h2, by rw [add_of_add]; exact h3, h4, h5⟩
/-- a digest, in a block of ints -/
def RRootIs (l : List Int) (w : World) (e : Ending) (w' : World) : Prop :=
  ∃ g cap : Nat, e = .returned (.slice (some ⟨g, 0, none⟩) 4 cap) ∧ (∃ cs, Blk w' g 3 cs) ∧ SL w' (some ⟨g, 0, none⟩) l ∧ l.length = 4 ∧ (∀ x ∈ l, I64 x) ∧ w.heap.size ≤ g ∧ Below w.heap.size w w'
theorem DigIs.root {p k : Nat} [NeZero p] (hm : p ≤ 2147483647) {l : List Int} {w w' : World} {e : Ending} (h : DigIs p k l w e w') : RRootIs (digL p k l) w e w' := by
  obtain ⟨g, cap, cs, h1, h2, h3, h4, h5, h6, h7⟩ := h
  exact ⟨g, cap, h1, ⟨cs, h5⟩, h4, digL_len _ _, i64_digL hm l, h6, h7⟩
set_option maxRecDepth 100000 in
set_option maxHeartbeats 1000000 in
theorem rroot_any (p k : Nat) [NeZero p] (PK : Pk p k) : ∀ (n : Nat), 1 ≤ n → n ≤ 65536 → ∀ (A : Option Addr) (c : Nat) (ls : List (List Int)), ls.length = n → n ≤ c → (∀ t ∈ ls, t.length * 8 ≤ 140737488351232) → ∀ (w : World), TB w A ls →
    Calls Tryz.prog 17 #[vi p, .slice A n c] w (RRootIs (rootD (digL p k) (rowF ls) 0 n) w) := by
  intro n
  induction n using Nat.strongRecOn with
  | ind n ih =>
    intro h1 hn A c ls hls hnc hR w hT
    obtain ⟨ad, A1, n1, c1, rfl, hb1, hc1, hl1, hn1, hs1, hi1⟩ := hT 0 (by omega)
    by_cases h2 : 2 ≤ n
    · have hlf := leftN_lt h2
      rw [rootD_halves h2]
      obtain ⟨j, hj⟩ : ∃ j, j = leftN n := ⟨_, rfl⟩
      rw [← hj] at hlf ⊢
      obtain ⟨hj1, hj2, hj3⟩ := hlf
      have hlc := fun w => rleft_any n h2 hn w
      rw [← hj] at hlc
      have HLC := Lib.hid hlc
      have HI1 := Lib.hid (fun w hT => ih j (by omega) (by omega) (by omega) (some ad) c (ls.take j) (by rw [List.length_take]; omega) (by omega) (fun t ht => hR t (List.mem_of_mem_take ht)) w hT)
      have HI2 := Lib.hid (fun w hT => ih (n - j) (by omega) (by omega) (by omega) (some (ad.add j)) (c - j) (ls.drop j) (by rw [List.length_drop]; omega) (by omega) (fun t ht => hR t (List.mem_of_mem_drop ht)) w hT)
      have HTA := Lib.hid (hT.take j)
      have HTD := Lib.hid (hT.drop j)
      have t1 : ((n : Int) == 1) = false := by simp; omega
      have t2 : (n : Int) ≤ (c : Int) := by omega
      have t3 : (j : Int) ≤ (n : Int) := by omega
      have t4 : (j : Int) ≤ (c : Int) := by omega
      have t5 : ¬ c = j := by omega
      obtain ⟨d1, hd1⟩ : ∃ d, d = rootD (digL p k) (rowF (ls.take j)) 0 j := ⟨_, rfl⟩
      obtain ⟨d2, hd2⟩ : ∃ d, d = rootD (digL p k) (rowF (ls.drop j)) 0 (n - j) := ⟨_, rfl⟩
      rw [← hd1] at HI1 ⊢
      rw [← hd2] at HI2 ⊢
      clear hd1 hd2 ih hls hR hT hc1 hl1 hs1 hi1 hb1 hn1 hj hlc
      go_enter Tryz.func17, Tryz.ntmps17
      go_wp2_with fail
      refine (HLC.out _).mono ?_
      rintro _ _ ⟨rfl, rfl⟩
      go_wp2_with fail
      refine (HI1.out _ HTA.out).mono ?_
      rintro _ w1 ⟨g1, cp1, rfl, x1, s1, l1, i1, n1, b1⟩
      have HX1 := Lib.hid (And.intro s1 (And.intro l1 (And.intro i1 b1)))
      clear x1 s1 l1 i1 b1
      go_wp2_with fail
      refine (HI2.out w1 (HTD.out.below HX1.out.2.2.2)).mono ?_
      rintro _ w2 ⟨g2, cp2, rfl, x2, s2, l2, i2, n2, b2⟩
      have hs1 := HX1.out.1.below b2
      have HN := Lib.hid (rnode_any p k PK (some ⟨g1, 0, none⟩) (some ⟨g2, 0, none⟩) 4 4 cp1 cp2 d1 d2 HX1.out.2.1 l2 (by omega) (by omega) HX1.out.2.2.1 i2 w2 hs1 s2)
      have HB2 := Lib.hid (HX1.out.2.2.2.trans (b2.mono HX1.out.2.2.2.size))
      have HM := Lib.hid PK.pm
      clear x2 s2 l2 i2 n2 b2 hs1
      go_wp2_with fail
      refine HN.out.mono ?_
      rintro _ w3 hd
      obtain ⟨g, cap, rfl, hx, hs, hl, hi, hn, hb⟩ := hd.root HM.out
      have HFIN : Hid (RRootIs (digL p k (1 :: (d1 ++ d2))) w (.returned (.slice (some ⟨g, 0, none⟩) 4 cap)) w3) := Lib.hid ⟨g, cap, rfl, hx, hs, hl, hi, Nat.le_trans HB2.out.size hn, HB2.out.trans (hb.mono HB2.out.size)⟩
      clear hd hx hs hl hi hn hb
      go_wp2
      go_ret
      exact HFIN.out
    · have e : n = 1 := by omega
      subst e
      rw [rootD_one _ _ _ h2, show rowF ls 0 = ls[0]'(by omega) from rowF_at (by omega)]
      have hrl := hR _ (List.getElem_mem (show 0 < ls.length by omega))
      rw [show ad.add 0 = ad by simp [Addr.add]] at hb1 hc1
      generalize ls[0]'(by omega) = x at hl1 hs1 hi1 hrl
      have HLF := Lib.hid (rleaf_any p k PK A1 n1 c1 x hl1 hi1 (by omega) w hs1)
      have HM := Lib.hid PK.pm
      clear hl1 hs1 hi1 hrl hb1 hn1 hT hR hls ih h2
      go_enter Tryz.func17, Tryz.ntmps17
      go_wp2_with fail
      refine HLF.out.mono ?_
      rintro _ w1 hd
      have hr := hd.root HM.out
      obtain ⟨g, cap, rfl, hx⟩ := hr
      have HFIN : Hid (RRootIs (digL p k (0 :: x)) w (.returned (.slice (some ⟨g, 0, none⟩) 4 cap)) w1) := Lib.hid ⟨g, cap, rfl, hx⟩
      clear hd hx
      go_wp2
      go_ret
      exact HFIN.out
/-- rows of four numbers, each in a block that is none of rows -/
def UsAt (w : World) (us : List Value) (ls : List (List Int)) : Prop :=
  us.length = ls.length ∧ ∀ k (h : k < us.length) (h' : k < ls.length), ∃ (g c : Nat) (t : TypeId) (cs : Array Value), us[k] = .slice (some ⟨g, 0, none⟩) 4 c ∧ Blk w g t cs ∧ t ≠ 22 ∧ t ≠ 25 ∧ SL w (some ⟨g, 0, none⟩) ls[k] ∧ ls[k].length = 4 ∧ ∀ x ∈ ls[k], I64 x
theorem UsAt.nil (w : World) : UsAt w [] [] := ⟨rfl, fun k h => absurd h (by simp)⟩
theorem UsAt.below {w w' : World} {us : List Value} {ls : List (List Int)} (h : UsAt w us ls) (hb : Below w.heap.size w w') : UsAt w' us ls := ⟨h.1, fun k h1 h2 => by
  obtain ⟨g, c, t, cs, e1, e2, e3, e4, e5, e6⟩ := h.2 k h1 h2
  exact ⟨g, c, t, cs, e1, Blk.below e2 hb e2.lt, e3, e4, e5.below hb, e6⟩⟩
theorem UsAt.app {w : World} {us vs : List Value} {ls ms : List (List Int)} (h : UsAt w us ls) (h' : UsAt w vs ms) : UsAt w (us ++ vs) (ls ++ ms) := by
  refine ⟨by rw [List.length_append, List.length_append, h.1, h'.1], fun k h1 h2 => ?_⟩
  by_cases hk : k < us.length
  · rw [List.getElem_append_left hk, List.getElem_append_left (by rw [← h.1]; exact hk)]
    exact h.2 k hk (by rw [← h.1]; exact hk)
  · rw [List.length_append] at h1
    rw [List.getElem_append_right (by omega), List.getElem_append_right (by rw [← h.1]; omega)]
    have e : k - ls.length = k - us.length := by rw [h.1]
    simp only [e]
    exact h'.2 (k - us.length) (by omega) (by rw [← h'.1]; omega)
theorem UsAt.one {w : World} {g c : Nat} {t : TypeId} {cs : Array Value} {l : List Int} (h1 : Blk w g t cs) (h2 : t ≠ 22) (h3 : t ≠ 25) (h4 : SL w (some ⟨g, 0, none⟩) l) (h5 : l.length = 4) (h6 : ∀ x ∈ l, I64 x) : UsAt w [.slice (some ⟨g, 0, none⟩) 4 c] [l] :=
  ⟨rfl, fun k hk hk' => by
    have e : k = 0 := by simp at hk; omega
    subst e
    exact ⟨g, c, t, cs, rfl, h1, h2, h3, h4, h5, h6⟩⟩
/-- kept while a block of rows, or the struct, is turned -/
theorem UsAt.far {w w' : World} {us : List Value} {ls : List (List Int)} {x : Nat} {tx : TypeId} {cx : Array Value} (h : UsAt w us ls) (hx : Blk w x tx cx) (ht : tx = 22 ∨ tx = 25) (hg : w.grownBy w' (some x)) : UsAt w' us ls := ⟨h.1, fun k h1 h2 => by
  obtain ⟨g, c, t, cs, e1, e2, e3, e4, e5, e6⟩ := h.2 k h1 h2
  have hgx : g ≠ x := Blk.ne_ e2 hx (by rcases ht with rfl | rfl; exact e3; exact e4)
  exact ⟨g, c, t, cs, e1, Blk.grown e2 hg (by intro e; injection e with e; exact hgx e), e3, e4, e5.far hg hgx, e6⟩⟩
theorem ownR_blk {w : World} {base : Nat} {v : Value} {us : List Value} (h : OwnR w base v us) {g : Nat} (hg : v.ownBlock = some g) : ∃ cs, Blk w g 22 cs := by
  rcases h.2 with ⟨rfl, _⟩ | ⟨g', cap, cur, rfl, _, hh, _⟩
  · cases hg
  · injection hg with hg
    subst hg
    exact ⟨cur, hh⟩
theorem UsAt.grew {w w' : World} {base : Nat} {v v' : Value} {us vs ws : List Value} {ls : List (List Int)} (h : GrewR w w' base v v' us) (ho : OwnR w base v vs) (hr : UsAt w ws ls) : UsAt w' ws ls := by
  rcases hv : v.ownBlock with _ | g
  · have hg := h.grown
    rw [hv] at hg
    exact hr.below ⟨hg.os, hg.tape, hg.output, hg.size, fun i hi => hg.block i hi (by intro e; cases e)⟩
  · obtain ⟨cs, hcs⟩ := ownR_blk ho hv
    exact hr.far hcs (.inl rfl) (by rw [← hv]; exact h.grown)
theorem tb_us {w : World} {base : Nat} {A : Option Addr} {n c : Nat} {us : List Value} {ls : List (List Int)} (h : OwnR w base (.slice A n c) us) (hr : UsAt w us ls) : TB w A ls := fun k hk => by
  have hku : k < us.length := by rw [hr.1]; exact hk
  have hn : us.length = n := by
    rcases h.2 with ⟨e, h0⟩ | ⟨g, cap, cur, e, _⟩
    · injection e with _ e2 _; omega
    · injection e with _ e2 _; exact e2.symm
  subst hn
  have hrd := Reads.of_own h
  obtain ⟨ad, u, e1, e2, e3, e4⟩ := Reads.at_ (k := k) hrd (by omega)
  have e5 : u = us[k] := by
    rw [List.getElem?_eq_getElem hku] at e3
    injection e3 with e3
    exact e3.symm
  obtain ⟨g, c1, t, cs, f1, f2, f3, f4, f5, f6, f7⟩ := hr.2 k hku hk
  exact ⟨ad, some ⟨g, 0, none⟩, 4, c1, e1, by rw [block_of_add]; exact e2, by rw [e4, e5, f1], f6, by omega, f5, f7⟩
/-- append of a whole slice of rows -/
theorem run_appRR (w : World) (base : Nat) (v : Value) (us : List Value) (A : Option Addr) (m c : Nat) (vs : List Value) (hm : vs.length = m) (hown : OwnR w base v us) (hr : Reads w w.heap.size 1 A m vs) (h1 : ∀ u ∈ vs, u.oneCell' = true) (hlen : us.length + m ≤ 5864062014805) (hbase : base ≤ w.heap.size) (ty : TypeId) :
    ∃ v' w', (Builtin.append_ #[23, 23] ty #[v, .slice A m c]).run Tryz.prog w = .ok v' w' ∧ GrewR w w' base v v' (us ++ vs) := by
  subst hm
  obtain ⟨i0, hi, hz0, hz1, hz2⟩ := info_parts info_ints
  obtain ⟨v', w', hrun, h2, h3, h4⟩ := run_append_any (P := Tryz.prog) w base 23 ty 22 i0 _ 1 24 Tryz.underlying23 hi hz0 hz1 hz2 rfl (by omega) v us.length us hown w.heap.size A vs.length c vs hr h1 (by simp only [maxLen]; omega) (by omega) hbase
  refine ⟨v', w', hrun, ?_, h3⟩
  rw [OwnR, List.length_append]
  exact h2
theorem wpList_appRR {ops : Array Oper} {rest : List Oper} {o : Oper} {a : Act} {Q : Exit → Act → World → Prop} (w : World) (hgd : o.guard = none) (s x : Operand)
    (ho : o.op = .call { callee := .builtin .append, args := #[s, x], argTypes := #[23, 23] })
    (base : Nat) (v : Value) (us : List Value) (A : Option Addr) (m c : Nat) (vs : List Value) (hs : a.eval s = v) (hx : a.eval x = .slice A m c) (hm : vs.length = m) (hown : OwnR w base v us) (hr : Reads w w.heap.size 1 A m vs) (h1 : ∀ u ∈ vs, u.oneCell' = true) (hlen : us.length + m ≤ 5864062014805) (hbase : base ≤ w.heap.size)
    (h : ∀ v' w', GrewR w w' base v v' (us ++ vs) → wpList Tryz.prog ops Q rest (a.put o.dst v') w') : wpList Tryz.prog ops Q (o :: rest) a w :=
  wpList_plain hgd fun _ hK => by
    obtain ⟨v', w', hrun, hg⟩ := run_appRR w base v us A m c vs hm hown hr h1 hlen hbase o.type
    unfold Oper.wp execOp
    simp only [ho, resolve, invoke, builtin, Sem.run_bind, Sem.run_pure, Result.andThen_ok, List.map_toArray, List.map_cons, List.map_nil, hs, hx, hrun]
    exact hK _ _ (h v' w' hg)
theorem UsAt.one' {w : World} {us : List Value} {ls : List (List Int)} (h : UsAt w us ls) : ∀ u ∈ us, u.oneCell' = true := fun u hu => by
  obtain ⟨k, hk, rfl⟩ := List.mem_iff_getElem.1 hu
  obtain ⟨g, c, t, cs, e1, _⟩ := h.2 k hk (by rw [← h.1]; exact hk)
  rw [e1]; rfl
end Go.Proofs.YtijhajkakmohnaaGreatDoor

/- The reference's Nodes. -/
set_option linter.unusedVariables false
namespace Go.Proofs.YtijhajkakmohnaaGreatDoor
open Go.RowKit Zp
/-- nodes of one's own -/
def NodesIs (ls : List (List Int)) (w : World) (e : Ending) (w' : World) : Prop := ∃ v us, e = .returned v ∧ OwnR w' w.heap.size v us ∧ UsAt w' us ls ∧ Below w.heap.size w w'
theorem ownR_lit1 (w : World) (base : Nat) (u : Value) (hb : base ≤ w.heap.size) : OwnR (w.alloc (.cells #[u] 22)) base (.slice (some ⟨w.heap.size, 0, none⟩) 1 1) [u] :=
  World.ownsRow_lit (e := 22) (size := 1) w #[u] 1 hb (by simp [maxLen]) (by simp)
theorem OwnR.moreB {w : World} {base base' : Nat} {v : Value} {us : List Value} (h : OwnR w base v us) (hb : base' ≤ base) : OwnR w base' v us := by
  refine ⟨h.1, ?_⟩
  rcases h.2 with h0 | ⟨g, cap, cur, hv, hg, rest⟩
  · exact .inl h0
  · exact .inr ⟨g, cap, cur, hv, Nat.le_trans hb hg, rest⟩
theorem hidL_le' (l : List Int) : ∀ (m a : Nat), 1 ≤ m → (hidL l a m).length ≤ m := by
  intro m
  induction m using Nat.strongRecOn with
  | ind m ih =>
    intro a hm
    by_cases hs : shownB l a m = true
    · by_cases h : 2 ≤ m
      · have hl := leftN_lt h
        rw [show hidL l a m = hidL l a (leftN m) ++ hidL l (a + leftN m) (m - leftN m) by rw [hidL, if_pos hs, dif_pos h], List.length_append]
        have := ih (leftN m) (by omega) a (by omega)
        have := ih (m - leftN m) (by omega) (a + leftN m) (by omega)
        omega
      · rw [hidL, if_pos hs, dif_neg h]; simp
    · rw [hidL, if_neg hs]; simpa using hm
set_option maxRecDepth 100000 in
set_option maxHeartbeats 1000000 in
theorem rnodes_any (p k : Nat) [NeZero p] (PK : Pk p k) (A0 : Option Addr) (n0 c0 : Nat) (l : List Int) (hl : l.length = n0) (hn0 : n0 ≤ 281474976710656) (rs : List (List Int)) : ∀ (n : Nat), 1 ≤ n → ∀ (a : Nat), a + n ≤ 65536 → ∀ (A : Option Addr) (c : Nat) (ls : List (List Int)), ls.length = n → n ≤ c → (∀ t ∈ ls, t.length * 8 ≤ 140737488351232) → (∀ i, i < n → rowF ls i = rowF rs (i + a)) → ∀ (w : World), SL w A0 l → TB w A ls →
    Calls Tryz.prog 55 #[vi p, .slice A n c, .slice A0 n0 c0, vi a] w (NodesIs ((hidL l a n).map fun g => rootD (digL p k) (rowF rs) g.1 g.2) w) := by
  intro n
  induction n using Nat.strongRecOn with
  | ind n ih =>
    intro h1 a ha A c ls hls hnc hR hrow w hs0 hT
    obtain ⟨ad, A1, n1, c1, rfl, hz⟩ := hT 0 (by omega)
    clear hz
    have HRS := Lib.hid (rsome_any A0 n0 c0 l hl (by omega) a n w hs0)
    by_cases hsh : shownB l a n = true
    · rw [hsh] at HRS
      by_cases h2 : 2 ≤ n
      · have hlf := leftN_lt h2
        have hhid : hidL l a n = hidL l a (leftN n) ++ hidL l (a + leftN n) (n - leftN n) := by rw [hidL, if_pos hsh, dif_pos h2]
        rw [hhid, List.map_append]
        obtain ⟨j, hj⟩ : ∃ j, j = leftN n := ⟨_, rfl⟩
        rw [← hj] at hlf ⊢
        obtain ⟨hj1, hj2, hj3⟩ := hlf
        have hlc := fun w => rleft_any n h2 (by omega) w
        rw [← hj] at hlc
        have HLC := Lib.hid hlc
        have HI1 := Lib.hid (fun w hs hT => ih j (by omega) (by omega) a (by omega) (some ad) c (ls.take j) (by rw [List.length_take]; omega) (by omega) (fun t ht => hR t (List.mem_of_mem_take ht)) (fun i hi => by rw [rowF_take hi]; exact hrow i (by omega)) w hs hT)
        have hi2 := fun w hs hT => ih (n - j) (by omega) (by omega) (a + j) (by omega) (some (ad.add j)) (c - j) (ls.drop j) (by rw [List.length_drop]; omega) (by omega) (fun t ht => hR t (List.mem_of_mem_drop ht)) (fun i hi => by rw [rowF_drop, hrow (i + j) (by omega)]; congr 1; omega) w hs hT
        have HI2 := Lib.hid hi2
        have HTA := Lib.hid (hT.take j)
        have HTD := Lib.hid (hT.drop j)
        have HS0 := Lib.hid hs0
        have t1 : ((n : Int) == 1) = false := by simp; omega
        have t2 : (n : Int) ≤ (c : Int) := by omega
        have t3 : (j : Int) ≤ (n : Int) := by omega
        have t4 : (j : Int) ≤ (c : Int) := by omega
        have t5 : ¬ c = j := by omega
        have hl1 := hidL_le' l j a (by omega)
        have hl2 := hidL_le' l (n - j) (a + j) (by omega)
        have HLN := Lib.hid (And.intro hl1 hl2)
        obtain ⟨d1, hd1⟩ : ∃ d, d = (hidL l a j).map fun g => rootD (digL p k) (rowF rs) g.1 g.2 := ⟨_, rfl⟩
        obtain ⟨d2, hd2⟩ : ∃ d, d = (hidL l (a + j) (n - j)).map fun g => rootD (digL p k) (rowF rs) g.1 g.2 := ⟨_, rfl⟩
        have hdl : d1.length + d2.length ≤ 65536 := by rw [hd1, hd2]; simp; omega
        rw [← hd1] at HI1 ⊢
        rw [← hd2] at HI2 ⊢
        have HDL := Lib.hid hdl
        clear hd1 hd2 ih hls hR hT hj hlc hi2 hl1 hl2 hdl hs0 hrow hhid hsh hl hn0
        go_enter Tryz.func55, Tryz.ntmps55
        go_wp2_with fail
        refine HRS.out.mono ?_
        rintro _ _ ⟨rfl, rfl⟩
        go_wp2_with fail
        refine (HLC.out _).mono ?_
        rintro _ _ ⟨rfl, rfl⟩
        go_wp2_with fail
        refine (HI1.out _ HS0.out HTA.out).mono ?_
        rintro _ w1 ⟨v1, us1, rfl, o1, u1, b1⟩
        have HX1 := Lib.hid (And.intro o1 (And.intro u1 b1))
        clear o1 u1 b1
        go_wp2_with fail
        refine (HI2.out w1 (HS0.out.below HX1.out.2.2) (HTD.out.below HX1.out.2.2)).mono ?_
        rintro _ w2 ⟨v2, us2, rfl, o2, u2, b2⟩
        obtain ⟨A2, n2, c2, rfl, e2, _⟩ := ownR_shape o2
        have hb02 := HX1.out.2.2.trans (b2.mono HX1.out.2.2.size)
        have ho1 := OwnR.below HX1.out.1 b2
        have hu1 := HX1.out.2.1.below b2
        have hrd : Reads w2 w2.heap.size 1 A2 n2 us2 := by subst e2; exact Reads.of_own o2
        have HAP := Lib.hid (And.intro e2 (And.intro ho1 (And.intro hu1 (And.intro hrd (And.intro u2 hb02)))))
        have hlen : us1.length + n2 ≤ 5864062014805 := by have := HDL.out; have := HX1.out.2.1.1; have := u2.1; omega
        have HLE := Lib.hid hlen
        clear o2 u2 b2 e2 hb02 ho1 hu1 hrd hlen
        go_wp2_with (at_builtin; refine wpList_appRR w2 rfl _ _ rfl w.heap.size _ us1 A2 n2 c2 us2 rfl rfl HAP.out.1 HAP.out.2.1 HAP.out.2.2.2.1 HAP.out.2.2.2.2.1.one' HLE.out HAP.out.2.2.2.2.2.size ?_; intro v3 w3 hg3)
        have hu3 := (UsAt.grew hg3 HAP.out.2.1 HAP.out.2.2.1).app (UsAt.grew hg3 HAP.out.2.1 HAP.out.2.2.2.2.1)
        have hb3 := hg3.below HAP.out.2.2.2.2.2 HAP.out.2.1 (Nat.le_refl _) HAP.out.2.2.2.2.2.size
        go_ret
        exact ⟨_, _, rfl, hg3.own, hu3, hb3⟩
      · have e : n = 1 := by omega
        subst e
        have HHE : Hid (hidL l a 1 = []) := Lib.hid (by rw [hidL, if_pos hsh, dif_neg h2])
        clear ih hls hR hT hs0 hrow hsh hl hn0 h2
        go_enter Tryz.func55, Tryz.ntmps55
        go_wp2_with fail
        refine HRS.out.mono ?_
        rintro _ _ ⟨rfl, rfl⟩
        go_wp2
        go_ret
        exact ⟨_, [], rfl, World.ownsRow_nil _ _ _ _, by rw [HHE.out]; exact UsAt.nil _, Below.refl _ _⟩
    · have hs' : shownB l a n = false := by simpa using hsh
      rw [hs'] at HRS
      have hhid : hidL l a n = [(a, n)] := by rw [hidL, if_neg hsh]
      have hrt := rroot_any p k PK n h1 (by omega) (some ad) c ls hls hnc hR w hT
      rw [show rootD (digL p k) (rowF ls) 0 n = rootD (digL p k) (rowF rs) a n by
        rw [rootD_shift (r := rowF ls) (r' := rowF rs) (j := a) n 0 (fun i _ hi => hrow i (by omega)) h1, Nat.zero_add]] at hrt
      have HRT := Lib.hid hrt
      have HHE : Hid ((hidL l a n).map (fun g => rootD (digL p k) (rowF rs) g.1 g.2) = [rootD (digL p k) (rowF rs) a n]) := Lib.hid (by rw [hhid]; rfl)
      clear ih hls hR hT hs0 hrow hsh hl hn0 hs' hhid hrt
      go_enter Tryz.func55, Tryz.ntmps55
      go_wp2_with fail
      refine HRS.out.mono ?_
      rintro _ _ ⟨rfl, rfl⟩
      go_wp2_with fail
      refine HRT.out.mono ?_
      rintro _ w1 ⟨g, cap, rfl, ⟨cs, hx⟩, hs, hl, hi, hn, hb⟩
      have hba : Below w1.heap.size w1 (w1.alloc (.cells #[.slice (some ⟨g, 0, none⟩) 4 cap] 22)) := (Below.refl _ _).alloc (Nat.le_refl _) _
      have HFIN : Hid (NodesIs [rootD (digL p k) (rowF rs) a n] w (.returned (.slice (some ⟨w1.heap.size, 0, none⟩) 1 1)) (w1.alloc (.cells #[.slice (some ⟨g, 0, none⟩) 4 cap] 22))) := Lib.hid
        ⟨_, _, rfl, ownR_lit1 w1 w.heap.size _ hb.size, (UsAt.one hx (by decide) (by decide) hs hl hi).below hba, hb.trans (hba.mono hb.size)⟩
      clear hx hs hl hi hn hb hba
      go_wp2
      go_ret
      rw [HHE.out]
      exact HFIN.out
end Go.Proofs.YtijhajkakmohnaaGreatDoor

/- The reference's Once: places ascending, each once. -/
set_option linter.unusedVariables false
namespace Zp
theorem insU_len (x : Int) : ∀ l : List Int, (insU x l).length ≤ l.length + 1
  | [] => by simp [insU]
  | a :: l => by
    unfold insU
    split
    · simp
    · split
      · simp
      · have := insU_len x l; simp; omega
theorem onceL_len : ∀ l : List Int, (onceL l).length ≤ l.length
  | [] => by simp [onceL]
  | a :: l => by
    have h1 := insU_len a (onceL l)
    have h2 := onceL_len l
    show (insU a (onceL l)).length ≤ l.length + 1
    omega
/-- may a number come next behind t of them? -/
def Cand (S : List Int) (t : Nat) (x : Int) : Prop := ∀ j (h : j < S.length), j < t → S[j] < x
theorem cand_zero (S : List Int) (x : Int) : Cand S 0 x := fun j _ h => absurd h (Nat.not_lt_zero _)
theorem cand_succ {S : List Int} (hS : Asc S) {t : Nat} (ht : t < S.length) (x : Int) : Cand S (t + 1) x ↔ S[t] < x := by
  constructor
  · intro h; exact h t ht (Nat.lt_succ_self _)
  · intro h j hj hjt
    have := hS.at_le (i := j) (j := t) (by omega) ht
    omega
theorem cand_in {l : List Int} {t : Nat} {x : Int} (hx : x ∈ l) (h : Cand (onceL l) t x) : ∃ j, ∃ hj : j < (onceL l).length, t ≤ j ∧ (onceL l)[j] = x := by
  obtain ⟨j, hj, e⟩ := List.mem_iff_getElem.1 ((mem_onceL x l).2 hx)
  refine ⟨j, hj, ?_, e⟩
  rcases Nat.lt_or_ge j t with h1 | h1
  · have := h j hj h1; omega
  · exact h1
theorem cand_none {l : List Int} {t : Nat} (h : ∀ x ∈ l, ¬ Cand (onceL l) t x) (ht : t ≤ (onceL l).length) : t = (onceL l).length := by
  rcases Nat.lt_or_ge t (onceL l).length with h1 | h1
  · exfalso
    refine h (onceL l)[t] ((mem_onceL _ l).1 (List.getElem_mem h1)) fun j hj hjt => (asc_onceL l).at_lt hjt h1
  · omega
theorem cand_min {l : List Int} {t : Nat} {y : Int} (hy : y ∈ l) (hc : Cand (onceL l) t y) (hm : ∀ x ∈ l, Cand (onceL l) t x → y ≤ x) : ∃ h : t < (onceL l).length, (onceL l)[t] = y := by
  obtain ⟨j, hj, htj, e⟩ := cand_in hy hc
  have ht : t < (onceL l).length := by omega
  refine ⟨ht, ?_⟩
  have h1 := (asc_onceL l).at_le htj hj
  have h2 := hm (onceL l)[t] ((mem_onceL _ l).1 (List.getElem_mem ht)) fun j hj hjt => (asc_onceL l).at_lt hjt ht
  omega
/-- the best of the first i -/
def Best (l : List Int) (t i : Nat) (b : Int) : Prop :=
  (b = -1 ∧ ∀ j (h : j < l.length), j < i → ¬ Cand (onceL l) t l[j]) ∨
  (∃ m : Nat, ∃ h : m < l.length, m < i ∧ b = m ∧ Cand (onceL l) t l[m] ∧ ∀ j (h' : j < l.length), j < i → Cand (onceL l) t l[j] → l[m] ≤ l[j])
theorem Best.zero (l : List Int) (t : Nat) : Best l t 0 (-1) := .inl ⟨rfl, fun j _ h => absurd h (Nat.not_lt_zero _)⟩
theorem Best.skip {l : List Int} {t i : Nat} {b : Int} (h : Best l t i b) (hi : i < l.length) (hc : ¬ Cand (onceL l) t l[i]) : Best l t (i + 1) b := by
  rcases h with ⟨e, h⟩ | ⟨m, hm, hmi, e, h1, h2⟩
  · refine .inl ⟨e, fun j hj hji => ?_⟩
    by_cases h3 : j < i
    · exact h j hj h3
    · obtain rfl : j = i := by omega
      exact hc
  · refine .inr ⟨m, hm, by omega, e, h1, fun j hj hji hcj => ?_⟩
    by_cases h3 : j < i
    · exact h2 j hj h3 hcj
    · obtain rfl : j = i := by omega
      exact absurd hcj hc
theorem Best.first {l : List Int} {t i : Nat} {b : Int} (h : Best l t i b) (hb : b < 0) (hi : i < l.length) (hc : Cand (onceL l) t l[i]) : Best l t (i + 1) i := by
  rcases h with ⟨e, h⟩ | ⟨m, hm, hmi, e, h1, h2⟩
  · refine .inr ⟨i, hi, by omega, rfl, hc, fun j hj hji hcj => ?_⟩
    by_cases h3 : j < i
    · exact absurd hcj (h j hj h3)
    · obtain rfl : j = i := by omega
      exact Int.le_refl _
  · omega
theorem Best.less {l : List Int} {t i m : Nat} (h : Best l t i m) (hm : m < l.length) (hi : i < l.length) (hc : Cand (onceL l) t l[i]) (hlt : l[i] < l[m]) : Best l t (i + 1) i := by
  rcases h with ⟨e, h⟩ | ⟨m', hm', hmi, e, h1, h2⟩
  · omega
  · obtain rfl : m = m' := by omega
    refine .inr ⟨i, hi, by omega, rfl, hc, fun j hj hji hcj => ?_⟩
    by_cases h3 : j < i
    · have := h2 j hj h3 hcj; omega
    · obtain rfl : j = i := by omega
      exact Int.le_refl _
theorem Best.keep {l : List Int} {t i m : Nat} (h : Best l t i m) (hm : m < l.length) (hi : i < l.length) (hge : ¬ l[i] < l[m]) : Best l t (i + 1) m := by
  rcases h with ⟨e, h⟩ | ⟨m', hm', hmi, e, h1, h2⟩
  · omega
  · obtain rfl : m = m' := by omega
    refine .inr ⟨m, hm, by omega, rfl, h1, fun j hj hji hcj => ?_⟩
    by_cases h3 : j < i
    · exact h2 j hj h3 hcj
    · obtain rfl : j = i := by omega
      omega
theorem Best.lo {l : List Int} {t i : Nat} {b : Int} (h : Best l t i b) : b = -1 ∨ ∃ m : Nat, b = m ∧ m < l.length := by
  rcases h with ⟨e, _⟩ | ⟨m, hm, _, e, _⟩
  · exact .inl e
  · exact .inr ⟨m, e, hm⟩
theorem Best.none {l : List Int} {t i : Nat} (h : Best l t i (-1)) (hi : l.length ≤ i) (ht : t ≤ (onceL l).length) : t = (onceL l).length := by
  rcases h with ⟨_, h⟩ | ⟨m, hm, _, e, _⟩
  · refine cand_none (fun x hx => ?_) ht
    obtain ⟨j, hj, rfl⟩ := List.mem_iff_getElem.1 hx
    exact h j hj (by omega)
  · omega
theorem Best.some {l : List Int} {t i m : Nat} (h : Best l t i m) (hm : m < l.length) (hi : l.length ≤ i) : ∃ h : t < (onceL l).length, (onceL l)[t] = l[m] := by
  rcases h with ⟨e, h⟩ | ⟨m', hm', hmi, e, h1, h2⟩
  · omega
  · obtain rfl : m = m' := by omega
    refine cand_min (List.getElem_mem hm) h1 fun x hx hc => ?_
    obtain ⟨j, hj, rfl⟩ := List.mem_iff_getElem.1 hx
    exact h2 j hj (by omega) hc
end Zp
namespace Go.Proofs.YtijhajkakmohnaaGreatDoor
open Go.RowKit Zp
end Go.Proofs.YtijhajkakmohnaaGreatDoor

/- The walk of the reference's Once. -/
set_option linter.unusedVariables false
namespace Go.Proofs.YtijhajkakmohnaaGreatDoor
open Go.RowKit Zp
theorem drewN_add' (w : World) (m n : Nat) : (w.drewN m).drewN n = w.drewN (m + n) := by simp [World.drewN, Nat.add_assoc]
set_option maxRecDepth 100000 in
set_option maxHeartbeats 2000000 in
theorem ronce_any (A : Option Addr) (n c : Nat) (l : List Int) (hl : l.length = n) (hlI : ∀ x ∈ l, I64 x) (hn : n * 8 ≤ 140737488351232) (w : World) (hs : SL w A l) :
    Calls Tryz.prog 53 #[.slice A n c] w fun e w' => Made (onceL l) w e w' := by
  have HL := Lib.hid hl
  have HS := Lib.hid hs
  have HN := Lib.hid hn
  have hol := onceL_len l
  rw [hl] at hol
  have HOL := Lib.hid hol
  have HAS := Lib.hid (asc_onceL l)
  clear hl hs hn hol
  go_enter Tryz.func53, Tryz.ntmps53
  go_wp2
  go_loopg [3] (n + 1) (fun g v wr => ∃ t : Nat, t ≤ (onceL l).length ∧ (onceL l).length + 1 ≤ g + t ∧ Own wr w.heap.size v ((onceL l).take t) ∧ Below w.heap.size w wr)
  case atStart => exact ⟨0, Nat.zero_le _, by have := HOL.out; omega, World.ownsRow_nil _ _ _ _, Below.refl _ _⟩
  case round =>
    obtain ⟨t, ht, hg, hown, hb⟩ := hrel
    obtain ⟨AO, tn, cO, rfl, htl, htc, _, hso⟩ := hown.shapeN
    have htn : tn = t := by rw [← htl, List.length_take]; omega
    subst htn
    have HOW := Lib.hid hown
    have HSO := Lib.hid hso
    have HB := Lib.hid hb
    have HT := Lib.hid (And.intro ht hg)
    have HSL := Lib.hid (HS.out.below hb)
    clear hown hso hb htl ht hg htc
    go_wp2
    go_loopw [4, 5] (fun bv iv wq => ∃ (i q : Nat) (b : Int), i ≤ n ∧ bv = vi b ∧ iv = vi i ∧ Best l tn i b ∧ wq = wr.drewN q) (fun _ iv _ => n - (intOf iv).toNat)
    case atStart => exact ⟨0, 0, -1, Nat.zero_le _, rfl, rfl, Best.zero _ _, rfl⟩
    case round =>
      obtain ⟨i, q, b, hi, rfl, rfl, hbest, rfl⟩ := hrel
      have HB0 := Lib.hid hbest
      clear hbest
      by_cases hlt : i < n
      · have hil : i < l.length := by rw [HL.out]; exact hlt
        obtain ⟨ad, rfl, _, hcx⟩ := HSL.out.at_ hil
        have i1 : (0 : Int) ≤ (i : Int) := by omega
        have i2 : (i : Int) < (n : Int) := by omega
        have hwr : IntKind.i64.wrap ((i : Int) + 1) = (i : Int) + 1 := IntWalk.i64_in _ (by have := HN.out; omega)
        have hw64 : wrap64 ((i : Int) + 1) = (i : Int) + 1 := IntWalk.wrap64_in _ (by have := HN.out; omega)
        by_cases ht0 : tn = 0
        · subst ht0
          have hcd : Cand (onceL l) 0 l[i] := cand_zero _ _
          have t1 : (((0 : Nat) : Int) == 0) = true := rfl
          rcases HB0.out.lo with hb1 | ⟨m, rfl, hml⟩
          · subst hb1
            have HBE := Lib.hid (HB0.out.first (by omega) hil hcd)
            have t3 : decide ((-1 : Int) < 0) = true := by decide
            generalize l[i] = x at hcx t1
            clear hil hcd
            go_wp2
            go_big_quiet (fail)
            go_wp2
            go_roundw
            case rel => exact ⟨i + 1, _, _, by omega, rfl, by go_num, HBE.out, rfl⟩
            case measure => simp [intOf]; omega
          · obtain ⟨ad3, e3, _, hcm⟩ := HSL.out.at_ hml
            injection e3 with e3
            subst e3
            have m1 : (0 : Int) ≤ (m : Int) := by omega
            have m2 : (m : Int) < (n : Int) := by have := HL.out; omega
            have t3 : decide ((m : Int) < 0) = false := decide_eq_false (by omega)
            by_cases hxy : l[i] < l[m]
            · have HBE := Lib.hid (HB0.out.less hml hil hcd hxy)
              have t4 : decide (l[i] < l[m]) = true := decide_eq_true hxy
              generalize l[i] = x at hcx hxy t4 t1
              generalize l[m] = y at hcm hxy t4
              clear hil hcd hml hxy
              go_wp2
              go_big_quiet (fail)
              go_wp2
              go_roundw
              case rel => exact ⟨i + 1, _, _, by omega, rfl, by go_num, HBE.out, rfl⟩
              case measure => simp [intOf]; omega
            · have HBE := Lib.hid (HB0.out.keep hml hil hxy)
              have t4 : decide (l[i] < l[m]) = false := decide_eq_false hxy
              generalize l[i] = x at hcx hxy t4 t1
              generalize l[m] = y at hcm hxy t4
              clear hil hcd hml hxy
              go_wp2
              go_big_quiet (fail)
              go_wp2
              go_roundw
              case rel => exact ⟨i + 1, _, _, by omega, rfl, by go_num, HBE.out, rfl⟩
              case measure => simp [intOf]; omega
        · obtain ⟨u, hu⟩ : ∃ u, tn = u + 1 := ⟨tn - 1, by omega⟩
          have huS : u < (onceL l).length := by have := HT.out.1; omega
          obtain ⟨ado, e4, _, hco⟩ := HSO.out.at_ (k := u) (by rw [List.length_take]; omega)
          subst e4
          rw [List.getElem_take] at hco
          have t1 : ((tn : Int) == 0) = false := by simp; omega
          have j1 : (0 : Int) ≤ (u : Int) := by omega
          have j2 : (u : Int) < (tn : Int) := by omega
          have jw : IntKind.i64.wrap ((tn : Int) - 1) = (u : Int) := by rw [IntWalk.i64_in _ (by have := HN.out; have := HOL.out; omega)]; omega
          have jw2 : wrap64 ((tn : Int) - 1) = (u : Int) := by rw [IntWalk.wrap64_in _ (by have := HN.out; have := HOL.out; omega)]; omega
          by_cases hgt : (onceL l)[u] < l[i]
          · have hcd : Cand (onceL l) tn l[i] := by rw [hu]; exact (cand_succ HAS.out huS _).2 hgt
            have t5 : decide ((onceL l)[u] < l[i]) = true := decide_eq_true hgt
            have HU := Lib.hid hu
            generalize (onceL l)[u] = z at hco t5 hgt
            clear hgt huS hu
            rcases HB0.out.lo with hb1 | ⟨m, rfl, hml⟩
            · subst hb1
              have HBE := Lib.hid (HB0.out.first (by omega) hil hcd)
              have t3 : decide ((-1 : Int) < 0) = true := by decide
              generalize l[i] = x at hcx t5
              clear hil hcd
              go_wp2
              go_big_quiet (fail)
              go_wp2
              go_roundw
              case rel => exact ⟨i + 1, _, _, by omega, rfl, by go_num, HBE.out, rfl⟩
              case measure => simp [intOf]; omega
            · obtain ⟨ad3, e3, _, hcm⟩ := HSL.out.at_ hml
              injection e3 with e3
              subst e3
              have m1 : (0 : Int) ≤ (m : Int) := by omega
              have m2 : (m : Int) < (n : Int) := by have := HL.out; omega
              have t3 : decide ((m : Int) < 0) = false := decide_eq_false (by omega)
              by_cases hxy : l[i] < l[m]
              · have HBE := Lib.hid (HB0.out.less hml hil hcd hxy)
                have t4 : decide (l[i] < l[m]) = true := decide_eq_true hxy
                generalize l[i] = x at hcx hxy t4 t5
                generalize l[m] = y at hcm hxy t4
                clear hil hcd hml hxy
                go_wp2
                go_big_quiet (fail)
                go_wp2
                go_roundw
                case rel => exact ⟨i + 1, _, _, by omega, rfl, by go_num, HBE.out, rfl⟩
                case measure => simp [intOf]; omega
              · have HBE := Lib.hid (HB0.out.keep hml hil hxy)
                have t4 : decide (l[i] < l[m]) = false := decide_eq_false hxy
                generalize l[i] = x at hcx hxy t4 t5
                generalize l[m] = y at hcm hxy t4
                clear hil hcd hml hxy
                go_wp2
                go_big_quiet (fail)
                go_wp2
                go_roundw
                case rel => exact ⟨i + 1, _, _, by omega, rfl, by go_num, HBE.out, rfl⟩
                case measure => simp [intOf]; omega
          · have HBE := Lib.hid (HB0.out.skip hil (by rw [hu]; exact fun h => hgt ((cand_succ HAS.out huS _).1 h)))
            have t5 : decide ((onceL l)[u] < l[i]) = false := decide_eq_false hgt
            have HU := Lib.hid hu
            generalize (onceL l)[u] = z at hco t5 hgt
            generalize l[i] = x at hcx t5 hgt
            clear hgt huS hil hu
            go_wp2
            go_big_quiet (fail)
            go_wp2
            go_roundw
            case rel => exact ⟨i + 1, _, _, by omega, rfl, by go_num, HBE.out, rfl⟩
            case measure => simp [intOf]; omega
      · obtain rfl : i = n := by omega
        rcases HB0.out.lo with hb1 | ⟨m, rfl, hml⟩
        · subst hb1
          have hfin := HB0.out.none (by rw [HL.out]; exact Nat.le_refl _) HT.out.1
          have HF := Lib.hid hfin
          clear hfin
          go_wp2
          go_ret
          have hown := HOW.out
          rw [show (onceL l).take tn = onceL l by rw [HF.out, List.take_length]] at hown
          exact ⟨_, rfl, hown.drewN _, below_drewN HB.out _⟩
        · have hs1 := HB0.out.some hml (by rw [HL.out]; exact Nat.le_refl _)
          have HS1 := Lib.hid hs1
          obtain ⟨ad3, e3, _, hcm⟩ := HSL.out.at_ hml
          subst e3
          have m1 : (0 : Int) ≤ (m : Int) := by omega
          have m2 : (m : Int) < (i : Int) := by have := HL.out; omega
          have HLL : Hid (((onceL l).take tn).length < 17592186044416) := Lib.hid (by have h1 := List.length_take_le tn (onceL l); have h2 := HN.out; have h3 := HOL.out; have h4 := HT.out; omega)
          obtain ⟨y, hy⟩ : ∃ y, y = l[m] := ⟨_, rfl⟩
          rw [← hy] at hcm
          have HY := Lib.hid hy
          clear hy hs1
          go_wp2_with (first | (at_builtin; refine wpList_app1 (wr.drewN q) y rfl _ _ rfl w.heap.size _ _ rfl rfl (HOW.out.drewN q) HLL.out (below_drewN HB.out q).size ?_; intro v' w1 hg))
          go_roundg (gk - 1)
          case measure => have := HT.out; have := HS1.out.1; omega
          case rel =>
            obtain ⟨hts, hte⟩ := HS1.out
            refine ⟨tn + 1, by omega, by have := HT.out; omega, ?_, hg.below (below_drewN HB.out q) (HOW.out.drewN q) (Nat.le_refl _) (below_drewN HB.out q).size⟩
            rw [List.take_succ_eq_append_getElem hts, hte, ← HY.out]
            exact hg.own
end Go.Proofs.YtijhajkakmohnaaGreatDoor

/- An Opening in the making; the reference's Open. -/
set_option linter.unusedVariables false
namespace Go.Proofs.YtijhajkakmohnaaGreatDoor
open Go.RowKit Zp
/-- the rows that are shown -/
def openR (p : Nat) [NeZero p] (ls : List (List Int)) (l : List Int) : List (List Int) := l.map fun i => fvs (els p (rowF ls i.toNat))
theorem openR_len (p : Nat) [NeZero p] (ls : List (List Int)) (l : List Int) : (openR p ls l).length = l.length := by simp [openR]
theorem openR_take (p : Nat) [NeZero p] (ls : List (List Int)) (l : List Int) {k m : Nat} (hk : k < l.length) (hm : l[k] = (m : Int)) : (openR p ls l).take (k + 1) = (openR p ls l).take k ++ [fvs (els p (rowF ls m))] := by
  rw [List.take_succ_eq_append_getElem (by rw [openR_len]; exact hk)]
  simp [openR, hm]
theorem openR_i64 (p : Nat) [NeZero p] (hp : p ≤ 2147483647) (ls : List (List Int)) (l : List Int) : ∀ t ∈ openR p ls l, ∀ x ∈ t, I64 x := fun t ht => by
  obtain ⟨i, _, rfl⟩ := List.mem_map.1 ht
  exact fun x hx => by obtain ⟨y, _, rfl⟩ := List.mem_map.1 hx; exact i64_fv _ hp
theorem openR_r8 (p : Nat) [NeZero p] (ls : List (List Int)) (l : List Int) (h : ∀ t ∈ ls, t.length * 8 ≤ 140737488351232) : ∀ t ∈ openR p ls l, t.length * 8 ≤ 140737488351232 := fun t ht => by
  obtain ⟨i, _, rfl⟩ := List.mem_map.1 ht
  by_cases hi : i.toNat < ls.length
  · rw [rowF_at hi]
    have := h _ (List.getElem_mem hi)
    simpa [fvs, els] using this
  · simp [rowF, List.getD_eq_getElem?_getD, List.getElem?_eq_none (Nat.le_of_not_lt hi), fvs, els]
/-- an Opening in the making: its rows so far -/
structure BldR (w : World) (B ob : Nat) (ov rv : Value) (us : List Value) (rs : List (List Int)) : Prop where
  blk : Blk w ob 25 #[ov, rv, .slice none 0 0]
  lo : ob < B
  sz : B ≤ w.heap.size
  ro : OwnR w B rv us
  rr : RowsOwn w B us rs
theorem BldR.below {w w' : World} {B ob : Nat} {ov rv : Value} {us : List Value} {rs : List (List Int)} (h : BldR w B ob ov rv us rs) (hb : Below w.heap.size w w') : BldR w' B ob ov rv us rs :=
  ⟨Blk.below h.blk hb h.blk.lt, h.lo, Nat.le_trans h.sz hb.size, OwnR.below h.ro hb, h.rr.below hb⟩
theorem BldR.push {w w' : World} {B ob : Nat} {ov rv u v' : Value} {us : List Value} {rs : List (List Int)} {l : List Int} (h : BldR w B ob ov rv us rs) (hu : Own w B u l) (hg : GrewR w w' B rv v' (us ++ [u])) :
    Blk w' ob 25 #[ov, rv, .slice none 0 0] ∧ BldR (w'.setCell ⟨ob, 1, none⟩ v') B ob ov v' (us ++ [u]) (rs ++ [l]) ∧ ∀ (C : Nat) (w0 : World), C ≤ ob → Below C w0 w → C ≤ w.heap.size → Below C w0 (w'.setCell ⟨ob, 1, none⟩ v') := by
  have hne : some ob ≠ rv.ownBlock := fun e => by
    have := (World.ownsRow.lt h.ro ob e.symm).1
    have := h.lo
    omega
  have hb := Blk.grown h.blk hg.grown hne
  have hr := (hg.rows h.ro h.rr).snoc (hu.grown hg.grown (own_ne hu h.ro))
  have hs : w'.grownBy (w'.setCell ⟨ob, 1, none⟩ v') (some ob) := blk_grown
  refine ⟨hb, ⟨hb.set_ 1 v', h.lo, Nat.le_trans h.sz (Nat.le_trans hg.grown.size hs.size), ownR_past hg.own hs h.lo, rowsOwn_past hr hs h.lo⟩, fun C w0 hC h0 hCs => ?_⟩
  have hCB : C ≤ B := Nat.le_trans hC (Nat.le_of_lt h.lo)
  exact (hg.below h0 h.ro hCB hCs).grown hs (Nat.le_trans hCs hg.grown.size) (fun x hx => by injection hx with hx; omega)
theorem rootD_len (p k : Nat) [NeZero p] (r : Nat → List Int) (a m : Nat) : (rootD (digL p k) r a m).length = 4 := by
  by_cases h : 2 ≤ m
  · rw [rootD_two _ _ _ h]; exact digL_len _ _
  · rw [rootD_one _ _ _ h]; exact digL_len _ _
/-- an Opening of the caller's; a store into an elder Opening leaves it whole -/
def OpenedUp (l : List Int) (rs ns : List (List Int)) (w : World) (e : Ending) (w' : World) : Prop :=
  ∃ A0 n0 c0 AR nR cR AN nN cN, e = .returned (.agg #[.slice A0 n0 c0, .slice AR nR cR, .slice AN nN cN]) ∧ OpnAt w' A0 n0 c0 l AR nR cR rs AN nN cN ns ∧ Below w.heap.size w w' ∧
    ∀ (W' : World) (r : Nat) (cx : Array Value), Blk w' r 25 cx → r < w.heap.size → w'.grownBy W' (some r) → OpnAt W' A0 n0 c0 l AR nR cR rs AN nN cN ns
/-- the Opening is whole, and is stored as the result -/
theorem opened_fin {S : List Int} {rs ns : List (List Int)} {w w5 W6 : World} {q ob base1 baseR baseN : Nat} {A1 AR AN : Option Addr} {n1 c1 nR cR nN cN : Nat} {us vs : List Value} {cs : Array Value} {a b c : Value}
    (h0 : Own w5 base1 (.slice A1 n1 c1) S) (h0b : q < base1) (h0n : ∀ g, (Value.slice A1 n1 c1).ownBlock = some g → g ≠ ob)
    (hR : OwnR w5 baseR (.slice AR nR cR) us) (hRr : RowsOwn w5 baseR us rs) (hRb : ob < baseR)
    (hN : OwnR w5 baseN (.slice AN nN cN) vs) (hNu : UsAt w5 vs ns) (hNb : ob < baseN) (hqo : q < ob)
    (hO : Blk w5 ob 25 cs) (hQ : Blk w5 q 25 #[a, b, c]) (hg : w5.grownBy W6 (some ob)) (hqw : w.heap.size ≤ q) (hb : Below w.heap.size w w5)
    (c1' cR' cN' : Nat) (hcN : nN ≤ cN') (b0 : S.length * 8 ≤ 140737488351232) (bR : rs.length ≤ 65536) (bN : ns.length ≤ 65536) (i0 : ∀ x ∈ S, I64 x) (iR : ∀ t ∈ rs, ∀ x ∈ t, I64 x) (rR : ∀ t ∈ rs, t.length * 8 ≤ 140737488351232) (rN : ∀ t ∈ ns, t.length = 4) :
    OpenedUp S rs ns w (.returned (.agg #[.slice A1 n1 c1', .slice AR nR cR', .slice AN nN cN'])) (((W6.setCell ⟨q, 0, none⟩ (.slice A1 n1 c1')).setCell ⟨q, 1, none⟩ (.slice AR nR cR')).setCell ⟨q, 2, none⟩ (.slice AN nN cN')) := by
  have hQ6 := Blk.grown hQ hg (by intro e; injection e with e; omega)
  obtain ⟨hset, hgr⟩ := blk_set3 hQ6 (.slice A1 n1 c1') (.slice AR nR cR') (.slice AN nN cN')
  have h06 : Own W6 base1 (.slice A1 n1 c1) S := h0.keep fun g hgv => hg.block g (h0.lt g hgv).2 (fun e => by injection e with e; exact h0n g hgv e)
  have o1 := own_past h06 hgr h0b
  have r1 := ownR_past (ownR_past hR hg hRb) hgr (by omega)
  have r2 := rowsOwn_past (rowsOwn_past hRr hg hRb) hgr (by omega)
  have n2 := ownR_past (ownR_past hN hg hNb) hgr (by omega)
  have u2 := (hNu.far hO (.inr rfl) hg).far hQ6 (.inr rfl) hgr
  have hbf := (hb.grown hg hb.size (fun x hx => by injection hx with hx; omega)).grown hgr (Nat.le_trans hb.size hg.size) (fun x hx => by injection hx with hx; omega)
  have key : ∀ W', Own W' base1 (.slice A1 n1 c1) S → OwnR W' baseR (.slice AR nR cR) us → RowsOwn W' baseR us rs → OwnR W' baseN (.slice AN nN cN) vs → UsAt W' vs ns → OpnAt W' A1 n1 c1' S AR nR cR' rs AN nN cN' ns := fun W' o1 r1 r2 n2 u2 => by
    obtain ⟨A1', n1', c1'', ev, hl1, _, _, hsl⟩ := o1.shapeN
    injection ev with ev1 ev2 ev3
    subst ev1 ev2 ev3
    obtain ⟨_, _, _, e1, hnR, _⟩ := ownR_shape r1
    injection e1 with _ e1 _
    obtain ⟨_, _, _, e2, hnN, _⟩ := ownR_shape n2
    injection e2 with _ e2 _
    refine ⟨hl1, by rw [← r2.1, hnR, e1], by rw [← u2.1, hnN, e2], by omega, ?_, ?_, hcN, i0, rR, fun t ht => by rw [rN t ht]; omega, hsl, tb_own r1 r2 iR, tb_us n2 u2⟩
    · have := r2.1; omega
    · have := u2.1; omega
  exact ⟨A1, n1, c1', AR, nR, cR', AN, nN, cN', rfl, key _ o1 r1 r2 n2 u2, hbf, fun W' r cx hB hr hg' => key W' (own_past o1 hg' (by omega)) (ownR_past r1 hg' (by omega)) (rowsOwn_past r2 hg' (by omega)) (ownR_past n2 hg' (by omega)) (u2.far hB (.inr rfl) hg')⟩
set_option maxRecDepth 100000 in
set_option maxHeartbeats 4000000 in
theorem ropen_any (p k : Nat) [NeZero p] (PK : Pk p k) (A : Option Addr) (N c : Nat) (ls : List (List Int)) (hN : ls.length = N) (h1 : 1 ≤ N) (hN2 : N ≤ 65536) (hNc : N ≤ c) (hR : ∀ t ∈ ls, t.length * 8 ≤ 140737488351232)
    (A0 : Option Addr) (n0 c0 : Nat) (l : List Int) (hl : l.length = n0) (hlI : ∀ x ∈ l, I64 x) (hn0 : n0 * 8 ≤ 140737488351232) (hin : ∀ x ∈ l, 0 ≤ x ∧ x < N) (w : World) (hs : SL w A0 l) (hT : TB w A ls) :
    Calls Tryz.prog 19 #[vi p, .slice A N c, .slice A0 n0 c0] w (OpenedUp (onceL l) (openR p ls (onceL l)) ((hidL (onceL l) 0 N).map fun g => rootD (digL p k) (rowF ls) g.1 g.2) w) := by
  have hb0 : Below w.heap.size w (w.alloc (.cells #[.slice none 0 0, .slice none 0 0, .slice none 0 0] 25)) := (Below.refl _ _).alloc (Nat.le_refl _) _
  have hB6 := Blk.new w 25 #[.slice none 0 0, .slice none 0 0, .slice none 0 0]
  have HON := Lib.hid (ronce_any A0 n0 c0 l hl hlI hn0 _ (hs.below hb0))
  obtain ⟨S, hS⟩ : ∃ S, S = onceL l := ⟨_, rfl⟩
  have hSa : Asc S := by rw [hS]; exact asc_onceL l
  have hSin : ∀ x ∈ S, 0 ≤ x ∧ x < N := fun x hx => hin x (by rw [hS] at hx; exact (mem_onceL x l).1 hx)
  have hSl := hSa.len hSin
  rw [← hS] at HON ⊢
  have HT := Lib.hid (hT.below hb0)
  have HB0 := Lib.hid hb0
  have HB6 := Lib.hid hB6
  have HLS := Lib.hid (And.intro hN (And.intro hN2 (And.intro hSl hR)))
  have HSI := Lib.hid hSin
  have HPM := Lib.hid PK.pm
  have HNC := Lib.hid (And.intro h1 hNc)
  clear hb0 hB6 hs hT hN hN2 h1 hNc hR hl hlI hn0 hin hS hSa hSin hSl
  go_enter Tryz.func19, Tryz.ntmps19
  go_wp2_with fail
  refine HON.out.mono ?_
  rintro _ w1 ⟨v1, rfl, ho1, hb1⟩
  obtain ⟨A1, n1, c1, rfl, hl1, _, _, hs1⟩ := ho1.shapeN
  go_wp2
  obtain ⟨W2, hW2⟩ : ∃ W2, W2 = w1.alloc (.cells #[.slice A1 n1 c1, .slice none 0 0, .slice none 0 0] 25) := ⟨_, rfl⟩
  obtain ⟨ob, hob⟩ : ∃ ob, ob = w1.heap.size := ⟨_, rfl⟩
  have hW2s : W2.heap.size = ob + 1 := by rw [hW2, hob]; simp
  have hB2 : Blk W2 ob 25 #[.slice A1 n1 c1, .slice none 0 0, .slice none 0 0] := by rw [hW2, hob]; exact Blk.new _ _ _
  have hb2 : Below ob w1 W2 := by rw [hW2, hob]; exact (Below.refl _ _).alloc (Nat.le_refl _) _
  rw [← hW2, ← hob]
  have HOB := Lib.hid (And.intro hob hW2s)
  have HW2 := Lib.hid (And.intro hB2 hb2)
  have HS1 := Lib.hid hs1
  have HL1 := Lib.hid hl1
  have HO1 := Lib.hid ho1
  have HB1 := Lib.hid (HB0.out.trans (hb1.mono HB0.out.size))
  have HB01 := Lib.hid hb1
  have HB61 := Lib.hid (Blk.below HB6.out hb1 HB6.out.lt)
  clear hW2 hob hW2s hB2 hb2 hs1 hl1 ho1 hb1
  go_loopw [9, 10] (fun i _ wr => ∃ (kk : Nat) (v : Value) (us : List Value), kk ≤ S.length ∧ i = vi kk ∧ BldR wr (ob + 1) ob (.slice A1 n1 c1) v us ((openR p ls S).take kk) ∧ Below ob w1 wr) (fun i _ _ => n1 - (intOf i).toNat)
  case atStart => exact ⟨0, .slice none 0 0, [], Nat.zero_le _, rfl, ⟨HW2.out.1, Nat.lt_succ_self _, by rw [HOB.out.2]; exact Nat.le_refl _, World.ownsRow_nil _ _ _ _, RowsOwn.nil _ _⟩, HW2.out.2⟩
  case round =>
    obtain ⟨kk, v, us, hk, rfl, hbld, hb⟩ := hrel
    have hbw1 : Below w1.heap.size w1 wr := by rw [← HOB.out.1]; exact hb
    rw [HL1.out] at hk
    obtain ⟨AV, nV, cV, rfl, hnV, hcV⟩ := ownR_shape hbld.ro
    by_cases hlt : kk < n1
    · have hkS : kk < S.length := by rw [HL1.out]; exact hlt
      obtain ⟨ad, rfl, hab, hcell⟩ := (HS1.out.below hbw1).at_ hkS
      have hx := HSI.out _ (List.getElem_mem hkS)
      obtain ⟨m, hm⟩ := Int.eq_ofNat_of_zero_le hx.1
      have htk := openR_take p ls S hkS hm
      rw [hm] at hcell hx
      have hmN : m < ls.length := by rw [HLS.out.1]; omega
      obtain ⟨ad2, A2, n2, c2, rfl, hb2, hc2, hl2, hn2, hs2, hi2⟩ := (HT.out.below (HB01.out.trans (hbw1.mono HB01.out.size))) m hmN
      have hrl := HLS.out.2.2.2 _ (List.getElem_mem hmN)
      rw [rowF_at hmN] at htk
      have hra := rall_any p HPM.out A2 c2 ls[m] hi2 (by omega) wr hs2
      rw [hl2] at hra
      have HTK := Lib.hid htk
      have HRA := Lib.hid hra
      generalize ls[m] = x at *
      have i1 : (0 : Int) ≤ (kk : Int) := by omega
      have i2 : (kk : Int) < (n1 : Int) := by omega
      have i3 : (0 : Int) ≤ (m : Int) := by omega
      have i4 : (m : Int) < (N : Int) := hx.2
      have hwr : IntKind.i64.wrap ((kk : Int) + 1) = (kk : Int) + 1 := IntWalk.i64_in _ (by have := HLS.out.2.2.1; have := HL1.out; have := HLS.out.2.1; omega)
      have HUS := Lib.hid (show us.length < 5864062014805 by have := hbld.rr.1; rw [List.length_take] at this; have := HLS.out.2.2.1; have := HL1.out; have := HLS.out.2.1; omega)
      have HBL := Lib.hid hbld
      have HBB := Lib.hid hb
      clear hra htk hm hx hl2 hn2 hs2 hi2 hrl hmN hkS hbld hb hbw1 hab
      go_wp2_with fail
      refine HRA.out.mono ?_
      rintro _ w3 ⟨v3, rfl, ho3, hb3⟩
      obtain ⟨A3, n3, c3, rfl, hl3, _, _, _⟩ := ho3.shapeN
      have hbld3 := HBL.out.below hb3
      have hbb3 := HBB.out.trans (hb3.mono (by have := HBL.out.sz; omega))
      have d1 := (hbld3.blk.cell 1).trans (show _ = some (.slice AV nV cV) from rfl)
      have HO3 := Lib.hid (ho3.more HBL.out.sz)
      have HB3 := Lib.hid hbld3
      have HBB3 := Lib.hid hbb3
      clear ho3 hl3 hb3 hbld3 hbb3
      go_wp2_with (at_builtin; refine wpList_appR w3 A3 n3 c3 rfl _ _ rfl (ob + 1) _ us rfl rfl HB3.out.ro HUS.out HB3.out.sz ?_; intro v4 w4 hg4; obtain ⟨hq, hbld4, hbb4⟩ := HB3.out.push HO3.out hg4; obtain ⟨A4, n4, c4, rfl, hn4, hc4⟩ := ownR_shape hg4.own; have k1 := (hq.cell 1).trans (show _ = some (.slice AV nV cV) from rfl); have z1 := hq.frozen 1; clear hg4 hq hn4 hc4)
      have HB4 := Lib.hid (And.intro hbld4 hbb4)
      clear hbld4 hbb4
      go_roundw
      case rel => exact ⟨kk + 1, _, _, by rw [HL1.out]; omega, by go_num, by rw [HTK.out]; exact HB4.out.1, HB4.out.2 ob w1 (Nat.le_refl _) HBB3.out (by have := HB3.out.sz; omega)⟩
      case measure => simp [intOf]; omega
    · have ek : kk = n1 := by omega
      rw [show (openR p ls S).take kk = openR p ls S by rw [ek, ← HL1.out, ← openR_len p ls S, List.take_length]] at hbld
      subst ek
      have hno := rnodes_any p k PK A1 kk c1 S HL1.out (by have := HLS.out.2.2.1; have := HL1.out; have := HLS.out.2.1; omega) ls N HNC.out.1 0 (by have := HLS.out.2.1; omega) A c ls HLS.out.1 HNC.out.2 HLS.out.2.2.2 (fun i _ => rfl) wr (HS1.out.below hbw1) (HT.out.below (HB01.out.trans (hbw1.mono HB01.out.size)))
      rw [show ((0 : Nat) : Int) = 0 from rfl] at hno
      have HNO := Lib.hid hno
      have HBL := Lib.hid hbld
      have HBW := Lib.hid hbw1
      clear hno hbld hbw1 hb
      go_wp2_with fail
      refine HNO.out.mono ?_
      rintro _ w5 ⟨v5, vs, rfl, hov, hus, hb5⟩
      obtain ⟨A5, n5, c5, rfl, hn5, hc5⟩ := ownR_shape hov
      have hbld5 := HBL.out.below hb5
      have d0 := (hbld5.blk.cell 0).trans (show _ = some (.slice A1 kk c1) from rfl)
      have d1 := (hbld5.blk.cell 1).trans (show _ = some (.slice AV nV cV) from rfl)
      have d2 := (hbld5.blk.cell 2).trans (show _ = some (.slice none 0 0) from rfl)
      have z2 := hbld5.blk.frozen 2
      have hbw5 : Below w1.heap.size w1 w5 := HBW.out.trans (hb5.mono HBW.out.size)
      have hB65 := Blk.below HB61.out hbw5 HB61.out.lt
      have e0 := (hB65.cell 0).trans (show _ = some (.slice none 0 0) from rfl)
      have e1 := (hB65.cell 1).trans (show _ = some (.slice none 0 0) from rfl)
      have e2 := (hB65.cell 2).trans (show _ = some (.slice none 0 0) from rfl)
      have f0 := hB65.frozen 0
      have f1 := hB65.frozen 1
      have f2 := hB65.frozen 2
      have hqo : w.heap.size < ob := by have := HB61.out.lt; rw [HOB.out.1]; exact this
      have hfin := opened_fin (q := w.heap.size) (ob := ob) (w := w) (W6 := w5.setCell ⟨ob, 2, none⟩ (.slice A5 n5 c5)) (HO1.out.below hbw5) (by simp) (fun g hg => by have := (HO1.out.lt g hg).2; rw [HOB.out.1]; omega) hbld5.ro hbld5.rr hbld5.lo hov hus (by have := HBL.out.sz; omega) hqo hbld5.blk hB65 blk_grown (Nat.le_refl _) (HB1.out.trans (hbw5.mono HB1.out.size))
        c1 cV c5 hc5 (by have := HLS.out.2.2.1; have := HLS.out.2.1; omega) (by rw [openR_len]; have := HLS.out.2.2.1; have := HLS.out.2.1; omega) (by have := hidL_le' S N 0 HNC.out.1; rw [List.length_map]; have := HLS.out.2.1; omega) (fun x hx => by have := HSI.out x hx; have := HLS.out.2.1; constructor <;> omega) (openR_i64 p HPM.out ls S) (openR_r8 p ls S HLS.out.2.2.2) (fun t ht => by obtain ⟨g, _, rfl⟩ := List.mem_map.1 ht; exact rootD_len p k _ _ _)
      have HFIN := Lib.hid hfin
      have hqo2 : ¬ w.heap.size = ob := by omega
      have hQ6 := Blk.grown hB65 (blk_grown (g := ob) (i := 2) (u := .slice A5 n5 c5)) (by intro e; injection e with e; omega)
      obtain ⟨hset, _⟩ := blk_set3 hQ6 (.slice A1 kk c1) (.slice AV nV cV) (.slice A5 n5 c5)
      have q0 := (hset.cell 0).trans (show _ = some (.slice A1 kk c1) from rfl)
      have q1 := (hset.cell 1).trans (show _ = some (.slice AV nV cV) from rfl)
      have q2 := (hset.cell 2).trans (show _ = some (.slice A5 n5 c5) from rfl)
      have HQ := Lib.hid (And.intro q0 (And.intro q1 q2))
      clear hfin hov hus hbld5 hbw5 hB65 hb5 hqo hQ6 hset q0 q1 q2
      go_wp2
      obtain ⟨q0, q1, q2⟩ := HQ.out
      exact bodyPost_ret (v := .agg #[.slice A1 kk c1, .slice AV nV cV, .slice A5 n5 c5]) (by simp [results, Tryz.results19, go_sem, q0, q1, q2]) rfl HFIN.out
end Go.Proofs.YtijhajkakmohnaaGreatDoor

/- Contracts of Go's library, laid at this program: each function of the shelf's beside its own number here. -/
set_option linter.unusedVariables false
namespace Go.Proofs.YtijhajkakmohnaaGreatDoor
open Go.Shelf
def shSort_ren : Go.Shelf.Ren := ⟨fun | 5 => 41 | 8 => 107 | 7 => 106 | 19 => 156 | 20 => 157 | 10 => 147 | 11 => 148 | 12 => 149 | 13 => 150 | 14 => 151 | 15 => 152 | 16 => 153 | 17 => 154 | 18 => 155 | 30 => 176 | 31 => 177 | 32 => 178 | 33 => 179 | 34 => 180 | 35 => 181 | 40 => 190 | n => n, fun | 23 => 22 | 25 => 3 | 3 => 3 | 32 => 163 | 22 => 22 | 0 => 0 | 44 => 196 | 46 => 198 | 4 => 4 | 36 => 190 | 35 => 189 | 41 => 181 | 5 => 5 | 9 => 9 | 53 => 217 | 57 => 221 | 63 => 237 | 64 => 238 | n => n, fun | n => n⟩
theorem shSort : Go.Proofs.SlLaysM.n5 Tryz.prog shSort_ren := {
  mixed := by kernel_rfl
  f5 := ⟨Tryz.f41.name, by decide, Tryz.func41.trans (congrArg some (by kernel_rfl))⟩
  f7 := ⟨Tryz.f106.name, by decide, Tryz.func106.trans (congrArg some (by kernel_rfl))⟩
  f8 := Tryz.func107.trans (congrArg some (by kernel_rfl))
  f10 := ⟨Tryz.f147.name, by decide, Tryz.func147.trans (congrArg some (by kernel_rfl))⟩
  f11 := ⟨Tryz.f148.name, by decide, Tryz.func148.trans (congrArg some (by kernel_rfl))⟩
  f12 := ⟨Tryz.f149.name, by decide, Tryz.func149.trans (congrArg some (by kernel_rfl))⟩
  f13 := ⟨Tryz.f150.name, by decide, Tryz.func150.trans (congrArg some (by kernel_rfl))⟩
  f14 := ⟨Tryz.f151.name, by decide, Tryz.func151.trans (congrArg some (by kernel_rfl))⟩
  f15 := ⟨Tryz.f152.name, by decide, Tryz.func152.trans (congrArg some (by kernel_rfl))⟩
  f16 := ⟨Tryz.f153.name, by decide, Tryz.func153.trans (congrArg some (by kernel_rfl))⟩
  f17 := ⟨Tryz.f154.name, by decide, Tryz.func154.trans (congrArg some (by kernel_rfl))⟩
  f18 := ⟨Tryz.f155.name, by decide, Tryz.func155.trans (congrArg some (by kernel_rfl))⟩
  f19 := Tryz.func156.trans (congrArg some (by kernel_rfl))
  f20 := Tryz.func157.trans (congrArg some (by kernel_rfl))
  f30 := ⟨Tryz.f176.name, by decide, Tryz.func176.trans (congrArg some (by kernel_rfl))⟩
  f31 := Tryz.func177.trans (congrArg some (by kernel_rfl))
  f32 := Tryz.func178.trans (congrArg some (by kernel_rfl))
  f33 := ⟨Tryz.f179.name, by decide, Tryz.func179.trans (congrArg some (by kernel_rfl))⟩
  f34 := ⟨Tryz.f180.name, by decide, Tryz.func180.trans (congrArg some (by kernel_rfl))⟩
  f35 := ⟨Tryz.f181.name, by decide, Tryz.func181.trans (congrArg some (by kernel_rfl))⟩
  f40 := ⟨Tryz.f190.name, by decide, Tryz.func190.trans (congrArg some (by kernel_rfl))⟩
  t0 := Tryz.underlying0
  a0 := Tryz.isAgg0
  z0 := Tryz.sizeOf0
  v0 := Tryz.zeroValue0
  t3 := Tryz.underlying3
  a3 := Tryz.isAgg3
  z3 := Tryz.sizeOf3
  v3 := Tryz.zeroValue3
  t4 := Tryz.underlying4
  a4 := Tryz.isAgg4
  z4 := Tryz.sizeOf4
  v4 := Tryz.zeroValue4
  t5 := Tryz.underlying5
  a5 := Tryz.isAgg5
  z5 := Tryz.sizeOf5
  v5 := Tryz.zeroValue5
  t9 := Tryz.underlying9
  a9 := Tryz.isAgg9
  z9 := Tryz.sizeOf9
  v9 := Tryz.zeroValue9
  t22 := Tryz.underlying22
  a22 := Tryz.isAgg22
  z22 := Tryz.sizeOf22
  v22 := Tryz.zeroValue22
  t23 := Tryz.underlying22
  a23 := Tryz.isAgg22
  z23 := Tryz.sizeOf22
  v23 := Tryz.zeroValue22
  t25 := Tryz.underlying3
  a25 := Tryz.isAgg3
  z25 := Tryz.sizeOf3
  v25 := Tryz.zeroValue3
  t32 := Tryz.underlying163
  a32 := Tryz.isAgg163
  z32 := Tryz.sizeOf163
  v32 := Tryz.zeroValue163
  t35 := Tryz.underlying189
  a35 := Tryz.isAgg189
  z35 := Tryz.sizeOf189
  v35 := Tryz.zeroValue189
  t36 := Tryz.underlying190
  a36 := Tryz.isAgg190
  z36 := Tryz.sizeOf190
  v36 := Tryz.zeroValue190
  t41 := Tryz.underlying181
  a41 := Tryz.isAgg181
  z41 := Tryz.sizeOf181
  v41 := Tryz.zeroValue181
  t44 := Tryz.underlying196
  a44 := Tryz.isAgg196
  z44 := Tryz.sizeOf196
  v44 := Tryz.zeroValue196
  t46 := Tryz.underlying198
  a46 := Tryz.isAgg198
  z46 := Tryz.sizeOf198
  v46 := Tryz.zeroValue198
  t53 := Tryz.underlying217
  a53 := Tryz.isAgg217
  z53 := Tryz.sizeOf217
  v53 := Tryz.zeroValue217
  t57 := Tryz.underlying221
  a57 := Tryz.isAgg221
  z57 := Tryz.sizeOf221
  v57 := Tryz.zeroValue221
  t63 := Tryz.underlying237
  a63 := Tryz.isAgg237
  z63 := Tryz.sizeOf237
  v63 := Tryz.zeroValue237
  t64 := Tryz.underlying238
  a64 := Tryz.isAgg238
  z64 := Tryz.sizeOf238
  v64 := Tryz.zeroValue238 }
def shCompact_ren : Go.Shelf.Ren := ⟨fun | 43 => 43 | n => n, fun | 22 => 22 | 23 => 3 | 3 => 3 | 4 => 4 | 0 => 0 | n => n, fun | n => n⟩
theorem shCompact : Go.Proofs.SlLaysN.n43 Tryz.prog shCompact_ren := {
  mixed := by kernel_rfl
  f43 := ⟨Tryz.f43.name, by decide, Tryz.func43.trans (congrArg some (by kernel_rfl))⟩
  t0 := Tryz.underlying0
  a0 := Tryz.isAgg0
  z0 := Tryz.sizeOf0
  v0 := Tryz.zeroValue0
  t3 := Tryz.underlying3
  a3 := Tryz.isAgg3
  z3 := Tryz.sizeOf3
  v3 := Tryz.zeroValue3
  t4 := Tryz.underlying4
  a4 := Tryz.isAgg4
  z4 := Tryz.sizeOf4
  v4 := Tryz.zeroValue4
  t22 := Tryz.underlying22
  a22 := Tryz.isAgg22
  z22 := Tryz.sizeOf22
  v22 := Tryz.zeroValue22
  t23 := Tryz.underlying3
  a23 := Tryz.isAgg3
  z23 := Tryz.sizeOf3
  v23 := Tryz.zeroValue3
  i23 := by kernel_rfl }
def shEqual_ren : Go.Shelf.Ren := ⟨fun | 33 => 117 | n => n, fun | 22 => 22 | 23 => 3 | 4 => 4 | 3 => 3 | 0 => 0 | n => n, fun | n => n⟩
theorem shEqual : Go.Proofs.SlLaysN.n33 Tryz.prog shEqual_ren := {
  mixed := by kernel_rfl
  f33 := ⟨Tryz.f117.name, by decide, Tryz.func117.trans (congrArg some (by kernel_rfl))⟩
  t0 := Tryz.underlying0
  a0 := Tryz.isAgg0
  z0 := Tryz.sizeOf0
  v0 := Tryz.zeroValue0
  t3 := Tryz.underlying3
  a3 := Tryz.isAgg3
  z3 := Tryz.sizeOf3
  v3 := Tryz.zeroValue3
  t4 := Tryz.underlying4
  a4 := Tryz.isAgg4
  z4 := Tryz.sizeOf4
  v4 := Tryz.zeroValue4
  t22 := Tryz.underlying22
  a22 := Tryz.isAgg22
  z22 := Tryz.sizeOf22
  v22 := Tryz.zeroValue22
  t23 := Tryz.underlying3
  a23 := Tryz.isAgg3
  z23 := Tryz.sizeOf3
  v23 := Tryz.zeroValue3 }
end Go.Proofs.YtijhajkakmohnaaGreatDoor

/- slices.Sort, Compact, Clip at ints of one's own, in this claim's words; sorted and compacted is: each once, ascending. -/
set_option linter.unusedVariables false
namespace Zp
open Go.Lib
theorem compactUpTo_asc (d : Array Int) (hs : ∀ i j, i ≤ j → j < d.size → d[i]! ≤ d[j]!) : ∀ m, m ≤ d.size → Asc (compactUpTo d m) ∧ ∀ x, x ∈ compactUpTo d m ↔ ∃ j, j < m ∧ d[j]! = x
  | 0, _ => ⟨by simp [compactUpTo, Asc], fun x => by simp [compactUpTo]⟩
  | m + 1, hm => by
    obtain ⟨ha, hx⟩ := compactUpTo_asc d hs m (by omega)
    rw [compactUpTo_succ]
    by_cases hk : keeps d m = true
    · rw [if_pos hk]
      constructor
      · refine List.pairwise_append.2 ⟨ha, by simp, fun a h1 b h2 => ?_⟩
        rw [List.mem_singleton] at h2
        subst h2
        obtain ⟨j, hj, rfl⟩ := (hx a).1 h1
        unfold keeps at hk
        have hk' := of_decide_eq_true hk
        rcases hk' with h0 | h0
        · omega
        · have e1 := hs j (m - 1) (by omega) (by omega)
          have e2 := hs (m - 1) m (by omega) (by omega)
          omega
      · intro x
        rw [List.mem_append, hx, List.mem_singleton]
        constructor
        · rintro (⟨j, hj, e⟩ | e)
          · exact ⟨j, by omega, e⟩
          · exact ⟨m, by omega, e.symm⟩
        · rintro ⟨j, hj, e⟩
          by_cases h : j < m
          · exact .inl ⟨j, h, e⟩
          · obtain rfl : j = m := by omega
            exact .inr e.symm
    · rw [if_neg hk, List.append_nil]
      refine ⟨ha, fun x => ?_⟩
      rw [hx]
      constructor
      · rintro ⟨j, hj, e⟩; exact ⟨j, by omega, e⟩
      · rintro ⟨j, hj, e⟩
        by_cases h : j < m
        · exact ⟨j, h, e⟩
        · obtain rfl : j = m := by omega
          unfold keeps at hk
          have hk' : ¬ (j = 0 ∨ d[j]! ≠ d[j - 1]!) := fun h => hk (decide_eq_true h)
          have h0 : j ≠ 0 := fun h => hk' (.inl h)
          have h1 : d[j]! = d[j - 1]! := Classical.byContradiction fun h => hk' (.inr h)
          exact ⟨j - 1, by omega, by rw [← h1]; exact e⟩
theorem compact_sorted {l : List Int} (h : l.Pairwise (· ≤ ·)) : Asc (compact l) ∧ ∀ x, x ∈ compact l ↔ x ∈ l := by
  have hg : ∀ (i : Nat) (hi : i < l.length), l.toArray[i]! = l[i] := fun i hi => by rw [getElem!_pos _ i (by simpa using hi)]; simp
  have hs : ∀ i j, i ≤ j → j < l.toArray.size → l.toArray[i]! ≤ l.toArray[j]! := fun i j hij hj => by
    have hj' : j < l.length := by simpa using hj
    rw [hg i (by omega), hg j hj']
    rcases Nat.lt_or_ge i j with h1 | h1
    · exact List.pairwise_iff_getElem.1 h i j (by omega) hj' h1
    · obtain rfl : i = j := by omega
      exact Int.le_refl _
  obtain ⟨h1, h2⟩ := compactUpTo_asc l.toArray hs l.length (by simp)
  refine ⟨h1, fun x => (h2 x).trans ?_⟩
  constructor
  · rintro ⟨j, hj, e⟩; rw [hg j hj] at e; subst e; exact List.getElem_mem _
  · intro hx
    obtain ⟨j, hj, e⟩ := List.mem_iff_getElem.1 hx
    exact ⟨j, hj, by rw [hg j hj]; exact e⟩
theorem compact_once (l : List Int) : compact (l.mergeSort fun x y => decide (x ≤ y)) = onceL l := by
  have hp : (l.mergeSort fun x y => decide (x ≤ y)).Pairwise (· ≤ ·) := by
    have := List.pairwise_mergeSort (le := fun x y : Int => decide (x ≤ y)) (fun a b c h1 h2 => by simp at *; omega) (fun a b => by simp; omega) l
    exact this.imp (fun h => by simpa using h)
  obtain ⟨h1, h2⟩ := compact_sorted hp
  exact onceL_of h1 fun x => (h2 x).trans List.mem_mergeSort
end Zp
namespace Go.Proofs.YtijhajkakmohnaaGreatDoor
open Go.RowKit Zp
theorem putCells_take {off : Nat} {zs : List Int} {c : Array Value} (hz : zs.length ≤ c.size) : (Go.Sort.putCells (Value.int .i64) 0 zs.toArray c).toList.take zs.length = zs.map vi := by
  apply List.ext_getElem?
  intro j
  rw [List.getElem?_take, List.getElem?_map]
  by_cases hj : j < zs.length
  · rw [if_pos hj]
    have e1 : (Go.Sort.putCells (Value.int .i64) 0 zs.toArray c)[j]? = some (.int .i64 zs.toArray[j]!) := by
      unfold Go.Sort.putCells
      rw [Array.getElem?_mapIdx, Array.getElem?_eq_getElem (by omega)]
      simp [hj]
    rw [Array.getElem?_toList, e1, List.getElem?_eq_getElem hj, getElem!_pos _ j (by simpa using hj)]
    simp
  · rw [if_neg hj, List.getElem?_eq_none (by omega)]
    rfl
/-- the cells of one's own ints turned -/
theorem own_put {w : World} {base g n c : Nat} {l zs : List Int} (h : Own w base (.slice (some ⟨g, 0, none⟩) n c) l) (hz : zs.length = l.length) (q : Nat) (os : Array Obj) :
    Own (Go.Sort.grow (Go.Sort.putRow (Value.int .i64) (Go.Sort.ahead w q) g 0 zs.toArray) os) base (.slice (some ⟨g, 0, none⟩) n c) zs ∧ w.grownBy (Go.Sort.grow (Go.Sort.putRow (Value.int .i64) (Go.Sort.ahead w q) g 0 zs.toArray) os) (some g) := by
  obtain ⟨h1, h2⟩ := h
  rcases h2 with ⟨e, _⟩ | ⟨g', cap, cur, e, hb, hg, hn, hc, hs, ht⟩
  · injection e with e; cases e
  · injection e with e1 e2 e3
    injection e1 with e1
    injection e1 with e1
    subst e1 e2 e3
    have hlt : g < w.heap.size := (Array.getElem?_eq_some_iff.1 hg).1
    refine ⟨⟨by simp, .inr ⟨g, c, Go.Sort.putCells (Value.int .i64) 0 zs.toArray cur, by rw [hz], hb, ?_, by rw [hz]; exact hn, hc, ?_, ?_⟩⟩, ⟨rfl, rfl, rfl, by simp, fun i hi hne => ?_⟩⟩
    · rw [Go.Sort.heap_grow_old _ _ (by simpa using hlt)]
      simp only [Go.Sort.putRow, Go.Sort.mapBlock, Go.Sort.heap_ahead, Array.getElem?_modify, if_true, hg, Option.map_some, Go.Sort.onCells]
    · simpa [Go.Sort.putCells] using hs
    · rw [Nat.mul_one]
      exact putCells_take (off := 0) (by rw [hz]; omega)
    · rw [Go.Sort.heap_grow_old _ _ (by simpa using hi)]
      have : g ≠ i := fun e => hne (by rw [e])
      simp only [Go.Sort.putRow, Go.Sort.mapBlock, Go.Sort.heap_ahead, Array.getElem?_modify, if_neg this]
theorem own_holds {w : World} {base g n c : Nat} {l : List Int} (h : Own w base (.slice (some ⟨g, 0, none⟩) n c) l) (hn : n = l.length) : Go.Sort.Holds (Value.int .i64) w g 0 l.toArray := fun j hj => by
  have hj' : j < l.length := by simpa using hj
  rw [Nat.zero_add, getElem!_pos _ j hj]
  exact ⟨by simpa using h.at_ hn j hj', h.frozen_ hn j⟩
/-- what a turn of the caller's own ints leaves -/
def Turned (base : Nat) (v u : Value) (l : List Int) (w : World) (w' : World) : Prop := Own w' base v l ∧ w.grownBy w' u.ownBlock
theorem sort_any {w : World} {base n c : Nat} {A : Option Addr} {l : List Int} (h : Own w base (.slice A n c) l) (hl : l.length = n) (hn : n ≤ 4000000000000000000) :
    Calls Tryz.prog 41 #[.slice A n c] w fun e w' => e = .returned (.tuple #[]) ∧ Turned base (.slice A n c) (.slice A n c) (l.mergeSort fun x y => decide (x ≤ y)) w w' := by
  rcases h.2 with ⟨e, h0⟩ | ⟨g, cap, cur, e, _, hg, _⟩
  · injection e with e1 e2 e3
    subst e1 e2 e3
    have hle : l = [] := List.eq_nil_of_length_eq_zero h0
    subst hle
    refine (Go.Proofs.AnyM.slices_Sort_int_none shSort none 0 w).mono ?_
    rintro e w' ⟨rfl, rfl⟩
    exact ⟨rfl, by rw [List.mergeSort_nil]; exact h, ⟨rfl, rfl, rfl, Nat.le_refl _, fun _ _ _ => rfl⟩⟩
  · injection e with e1 e2 e3
    subst e1 e3
    have hk := Go.Proofs.AnyM.slices_Sort_int shSort g 0 c l w (own_holds h hl.symm) (Array.getElem?_eq_some_iff.1 hg).1 (by omega)
    rw [hl] at hk
    refine hk.mono ?_
    rintro e w' ⟨rfl, q, os, rfl⟩
    exact ⟨rfl, own_put h (by simp) q os⟩
theorem own_cut {w : World} {base n c k : Nat} {A : Option Addr} {l : List Int} (h : Own w base (.slice A n c) l) (hl : l.length = n) (hk : k ≤ n) : Own w base (.slice A k c) (l.take k) := by
  have hlk : (l.take k).length = k := by rw [List.length_take]; omega
  rcases h.2 with ⟨e, h0⟩ | ⟨g, cap, cur, e, hb, hg, hn, hc, hs, ht⟩
  · injection e with e1 e2 e3
    subst e1 e2 e3
    refine ⟨by simp, .inl ⟨?_, by omega⟩⟩
    have : k = 0 := by omega
    rw [this]
  · injection e with e1 e2 e3
    subst e1 e2 e3
    refine ⟨by simp, .inr ⟨g, c, cur, by rw [hlk], hb, hg, by omega, hc, hs, ?_⟩⟩
    rw [List.map_take, ← ht, List.take_take, hlk]
    congr 1
    omega
theorem compact_any {w : World} {base n c : Nat} {A : Option Addr} {l : List Int} (h : Own w base (.slice A n c) l) (hl : l.length = n) (hn : n ≤ 4000000000000000000) :
    Calls Tryz.prog 43 #[.slice A n c] w fun e w' => e = .returned (.slice A (Go.Lib.compact l).length c) ∧ Turned base (.slice A (Go.Lib.compact l).length c) (.slice A n c) (Go.Lib.compact l) w w' := by
  rcases h.2 with ⟨e, h0⟩ | ⟨g, cap, cur, e, _, hg, hnc, _⟩
  · injection e with e1 e2 e3
    subst e1 e2 e3
    have hle : l = [] := List.eq_nil_of_length_eq_zero h0
    subst hle
    refine (Go.Proofs.AnyG.slices_Compact_int_empty shCompact none 0 w).mono ?_
    rintro e w' ⟨rfl, rfl⟩
    exact ⟨rfl, h, ⟨rfl, rfl, rfl, Nat.le_refl _, fun _ _ _ => rfl⟩⟩
  · injection e with e1 e2 e3
    subst e1 e3
    have hk := Go.Proofs.AnyG.slices_Compact_int shCompact g 0 c l w (own_holds h hl.symm) (by omega) (by omega)
    rw [hl] at hk
    refine hk.mono ?_
    rintro e w' ⟨rfl, q, rfl⟩
    have hcl : (Go.Lib.compact l).length ≤ l.length := by unfold Go.Lib.compact Go.Lib.compactUpTo; rw [List.length_map]; exact Nat.le_trans (List.length_filter_le _ _) (by simp)
    have hp := own_put h (zs := Go.Lib.compact l ++ List.replicate (n - (Go.Lib.compact l).length) 0) (by simp; omega) q #[]
    rw [Go.Sort.grow_empty] at hp
    have hc2 := own_cut hp.1 (k := (Go.Lib.compact l).length) (by simp; omega) (by omega)
    rw [List.take_left' rfl] at hc2
    exact ⟨rfl, hc2, hp.2⟩
end Go.Proofs.YtijhajkakmohnaaGreatDoor

/- Walks: slices.Clip; IndexFunc and ContainsFunc at ints, with a function that has captured cells; the closures of tree.Open. -/
set_option linter.unusedVariables false
namespace Go.Proofs.YtijhajkakmohnaaGreatDoor
open Go.RowKit Zp
theorem clipI_any (A : Option Addr) (n c : Nat) (hn : n ≤ c) (w : World) (hc : A = none → c = 0) :
    Calls Tryz.prog 42 #[.slice A n c] w fun e w' => e = .returned (.slice A n n) ∧ w = w' := by
  cases A with
  | none =>
    obtain rfl := hc rfl
    obtain rfl : n = 0 := by omega
    go_enter Tryz.func42, Tryz.ntmps42
    go_wp2
    go_ret
    exact ⟨rfl, rfl⟩
  | some ad =>
    have t1 : (n : Int) ≤ (c : Int) := by omega
    clear hc
    go_enter Tryz.func42, Tryz.ntmps42
    go_wp2
    go_ret
    exact ⟨rfl, rfl⟩
theorem clipR_any (A : Option Addr) (n c : Nat) (hn : n ≤ c) (w : World) (hc : A = none → c = 0) :
    Calls Tryz.prog 48 #[.slice A n c] w fun e w' => e = .returned (.slice A n n) ∧ w = w' := by
  cases A with
  | none =>
    obtain rfl := hc rfl
    obtain rfl : n = 0 := by omega
    go_enter Tryz.func48, Tryz.ntmps48
    go_wp2
    go_ret
    exact ⟨rfl, rfl⟩
  | some ad =>
    have t1 : (n : Int) ≤ (c : Int) := by omega
    clear hc
    go_enter Tryz.func48, Tryz.ntmps48
    go_wp2
    go_ret
    exact ⟨rfl, rfl⟩
theorem own_none {w : World} {base n c : Nat} {A : Option Addr} {l : List Int} (h : Own w base (.slice A n c) l) : A = none → c = 0 := fun e => by
  subst e
  rcases h.2 with ⟨e, _⟩ | ⟨g, cap, cur, e, _⟩
  · injection e
  · injection e with e1; cases e1
theorem ownR_none {w : World} {base n c : Nat} {A : Option Addr} {us : List Value} (h : OwnR w base (.slice A n c) us) : A = none → c = 0 := fun e => by
  subst e
  rcases h.2 with ⟨e, _⟩ | ⟨g, cap, cur, e, _⟩
  · injection e
  · injection e with e1; cases e1
/-- the first of which P says yes, or -1 -/
def idxI (P : Int → Bool) (l : List Int) : Int := if l.any P then ((l.findIdx P : Nat) : Int) else -1
theorem idxI_no {P : Int → Bool} {l : List Int} (h : l.any P = false) : idxI P l = -1 := by unfold idxI; rw [h]; rfl
theorem idxI_yes {P : Int → Bool} {l : List Int} {k : Nat} (h : l.any P = true) (hk : l.findIdx P = k) : idxI P l = k := by unfold idxI; rw [h, hk]; rfl
set_option maxRecDepth 100000 in
set_option maxHeartbeats 1000000 in
theorem indexI_any (K : Nat) (hK : ∀ (args : Array Value) (w : World), (callFunc K args).run Tryz.prog w = .ok (.enter K args) w) (caps : Array Value) (P : Int → Bool) (A : Option Addr) (N c : Nat) (l : List Int) (hN : l.length = N) (hN2 : N ≤ 9223372036854775806)
    (w : World) (hY : ∀ x ∈ l, Calls Tryz.prog K (#[vi x] ++ caps) w fun e w' => e = .returned (.bool (P x)) ∧ w = w') (hT : SL w A l) :
    Calls Tryz.prog 105 #[.slice A N c, .func (.func K) #[] caps] w fun e w' => e = .returned (vi (idxI P l)) ∧ w = w' := by
  have HN := Lib.hid hN
  have HT := Lib.hid hT
  have HY := Lib.hid hY
  clear hN hT hY
  go_enter Tryz.func105, Tryz.ntmps105
  go_wp2
  go_loop [8] (fun i => ∃ k : Nat, k ≤ N ∧ i = vi k ∧ ∀ j (h : j < l.length), j < k → P l[j] = false) (fun i => N - (intOf i).toNat)
  case atStart => exact ⟨0, Nat.zero_le _, rfl, fun j _ hj => absurd hj (Nat.not_lt_zero _)⟩
  case round =>
    obtain ⟨k, hk, rfl, hb⟩ := hrel
    have HB := Lib.hid hb
    clear hb
    by_cases hlt : k < N
    · have hkt : k < l.length := by rw [HN.out]; exact hlt
      obtain ⟨ad, rfl, hb1, hc1⟩ := HT.out.at_ hkt
      have i1 : (0 : Int) ≤ k := by omega
      have i2 : (k : Int) < N := by omega
      have i3 : (k : Int) + 1 ≤ 9223372036854775807 := by omega
      have hyk := HY.out _ (List.getElem_mem hkt)
      obtain ⟨x, hx⟩ : ∃ x, x = l[k] := ⟨_, rfl⟩
      rw [← hx] at hyk hc1
      have HYK := Lib.hid hyk
      have HX := Lib.hid hx
      clear hx hyk
      by_cases hp : P x = true
      · have HR : Hid (idxI P l = k) := Lib.hid (by
          have hpk : P l[k] = true := by rw [← HX.out]; exact hp
          exact idxI_yes (List.any_eq_true.2 ⟨_, List.getElem_mem hkt, hpk⟩) (by
            rw [List.findIdx_eq hkt]
            exact ⟨hpk, fun j hj => by simpa using HB.out j (by omega) hj⟩))
        have HP := Lib.hid hp
        clear hp
        go_wp2_with fail
        refine HYK.out.mono ?_
        rintro _ _ ⟨rfl, rfl⟩
        rw [HP.out]
        go_wp2
        go_ret
        exact ⟨ret_int HR.out.symm, rfl⟩
      · have HP := Lib.hid (show P x = false by simpa using hp)
        have HBB : Hid (∀ j (h : j < l.length), j < k + 1 → P l[j] = false) := Lib.hid (fun j h hj => by
          by_cases e : j < k
          · exact HB.out j h e
          · obtain rfl : j = k := by omega
            rw [← HX.out]; exact HP.out)
        clear hp
        go_wp2_with fail
        refine HYK.out.mono ?_
        rintro _ _ ⟨rfl, rfl⟩
        rw [HP.out]
        go_wp2
        go_round
        case rel => exact ⟨k + 1, by omega, by go_num, HBB.out⟩
        case measure => simp [intOf]; omega
    · obtain rfl : k = N := by omega
      have HR : Hid (idxI P l = -1) := Lib.hid (idxI_no (by
        rw [Bool.eq_false_iff]
        intro h
        obtain ⟨x, hx, hp⟩ := List.any_eq_true.1 h
        obtain ⟨j, hj, rfl⟩ := List.mem_iff_getElem.1 hx
        rw [HB.out j hj (by rw [← HN.out]; exact hj)] at hp
        cases hp))
      go_wp2
      go_ret
      exact ⟨ret_int HR.out.symm, rfl⟩
theorem containsI_any (K : Nat) (hK : ∀ (args : Array Value) (w : World), (callFunc K args).run Tryz.prog w = .ok (.enter K args) w) (caps : Array Value) (P : Int → Bool) (A : Option Addr) (N c : Nat) (l : List Int) (hN : l.length = N) (hN2 : N ≤ 9223372036854775806)
    (w : World) (hY : ∀ x ∈ l, Calls Tryz.prog K (#[vi x] ++ caps) w fun e w' => e = .returned (.bool (P x)) ∧ w = w') (hT : SL w A l) :
    Calls Tryz.prog 38 #[.slice A N c, .func (.func K) #[] caps] w fun e w' => e = .returned (.bool (l.any P)) ∧ w = w' := by
  have HI := Lib.hid (indexI_any K hK caps P A N c l hN hN2 w hY hT)
  clear hY hT hN
  cases hb : l.any P
  · rw [idxI_no hb] at HI
    clear hb
    go_enter Tryz.func38, Tryz.ntmps38
    go_wp2_with fail
    refine HI.out.mono ?_
    rintro _ _ ⟨rfl, rfl⟩
    go_wp2
    go_ret
    exact ⟨by simp, rfl⟩
  · obtain ⟨t, ht⟩ : ∃ t, l.findIdx P = t := ⟨_, rfl⟩
    rw [idxI_yes hb ht] at HI
    have h0 : (0 : Int) ≤ (t : Int) := by omega
    clear hb ht
    go_enter Tryz.func38, Tryz.ntmps38
    go_wp2_with fail
    refine HI.out.mono ?_
    rintro _ _ ⟨rfl, rfl⟩
    go_wp2
    go_ret
    exact ⟨by simp, rfl⟩
/-- a place that is none of N rows -/
def outB (N : Nat) (x : Int) : Bool := decide (¬ (0 ≤ x ∧ x < N))
theorem open1_any (x : Int) (b : Nat) (A : Option Addr) (N c : Nat) (w : World) (hc : w.cell? ⟨b, 0, none⟩ = some (.slice A N c)) :
    Calls Tryz.prog 39 #[vi x, .pointer (some ⟨b, 0, none⟩)] w fun e w' => e = .returned (.bool (outB N x)) ∧ w = w' := by
  by_cases h1 : x < 0
  · have HR := Lib.hid (show outB N x = true from decide_eq_true (by omega))
    have t1 : decide (x < 0) = true := decide_eq_true h1
    go_enter Tryz.func39, Tryz.ntmps39
    go_wp2
    go_ret
    exact ⟨ret_bool HR.out.symm, rfl⟩
  · have t1 : decide (x < 0) = false := decide_eq_false h1
    by_cases h2 : (N : Int) ≤ x
    · have HR := Lib.hid (show outB N x = true from decide_eq_true (by omega))
      have t2 : decide ((N : Int) ≤ x) = true := decide_eq_true h2
      go_enter Tryz.func39, Tryz.ntmps39
      go_wp2
      go_ret
      exact ⟨ret_bool HR.out.symm, rfl⟩
    · have HR := Lib.hid (show outB N x = false from decide_eq_false (by omega))
      have t2 : decide ((N : Int) ≤ x) = false := decide_eq_false h2
      go_enter Tryz.func39, Tryz.ntmps39
      go_wp2
      go_ret
      exact ⟨ret_bool HR.out.symm, rfl⟩
end Go.Proofs.YtijhajkakmohnaaGreatDoor

/- Walks: tree.hidden, with a function that turns memory of its own; the closure of tree.Open that keeps the roots. -/
set_option linter.unusedVariables false
namespace Go.Proofs.YtijhajkakmohnaaGreatDoor
open Go.RowKit Zp
/-- groups in memory are kept -/
def KeepG (w w' : World) : Prop := w.heap.size ≤ w'.heap.size ∧ ∀ g cs, Blk w g 92 cs → Blk w' g 92 cs
theorem KeepG.trans {a b c : World} (h : KeepG a b) (k : KeepG b c) : KeepG a c := ⟨Nat.le_trans h.1 k.1, fun g cs hb => k.2 g cs (h.2 g cs hb)⟩
theorem KeepG.of {w w' : World} (h : Below w.heap.size w w') : KeepG w w' := ⟨h.size, fun g cs hb => Blk.below hb h hb.lt⟩
theorem KeepG.one {w w' : World} {x : Nat} {t : TypeId} {cx : Array Value} (hx : Blk w x t cx) (ht : t ≠ 92) (h : w.grownBy w' (some x)) : KeepG w w' := ⟨h.size, fun g cs hb => Blk.grown hb h (by intro e; injection e with e; exact Blk.ne_ hb hx (Ne.symm ht) e)⟩
theorem KeepG.grew {w w' : World} {base : Nat} {v v' : Value} {us vs : List Value} (h : GrewR w w' base v v' us) (ho : OwnR w base v vs) : KeepG w w' := ⟨h.grown.size, fun g cs hb => Blk.grown hb h.grown (by
  rcases hv : v.ownBlock with _ | x
  · intro e; cases e
  · obtain ⟨cx, hx⟩ := ownR_blk ho hv
    intro e; injection e with e
    exact Blk.ne_ hb hx (by decide) e)⟩
set_option maxRecDepth 100000 in
set_option maxHeartbeats 1000000 in
theorem hidden_gen (K : Nat) (hK : ∀ (args : Array Value) (w : World), (callFunc K args).run Tryz.prog w = .ok (.enter K args) w) (caps : Array Value) (N : Nat) (hNN : N ≤ 65536) (A0 : Option Addr) (n c : Nat) (l : List Int) (hml : l.length = n) (hn : n ≤ 65536) (hup : Asc l)
    (J : List (Nat × Nat) → World → Prop) (hJ : ∀ pre W W', J pre W → Below W.heap.size W W' → J pre W') (hJs : ∀ pre W, J pre W → SL W A0 l)
    (hY : ∀ (pre : List (Nat × Nat)) (a m : Nat) (W : World), J pre W → pre.length ≤ a → 1 ≤ m → a + m ≤ N → Calls Tryz.prog K (#[.agg #[vi (a : Int), vi ((a : Int) + (m : Int))]] ++ caps) W fun e W' => (∃ r, e = .returned r) ∧ J (pre ++ [(a, m)]) W' ∧ KeepG W W') :
    ∀ (m a : Nat), 1 ≤ m → a + m ≤ N → ∀ (pre : List (Nat × Nat)) (w : World), pre.length ≤ a → J pre w →
    Calls Tryz.prog 46 #[Gp a (a + m), .slice A0 n c, .func (.func K) #[] caps] w fun e w' => (∃ r, e = .returned r) ∧ J (pre ++ hidL l a m) w' ∧ KeepG w w' := by
  intro m
  induction m using Nat.strongRecOn with
  | ind m ih =>
    intro a h1 ha pre w hpl hj
    have hs := hJs _ _ hj
    have hb1 : Below w.heap.size w (w.alloc (.cells #[vi a, vi ((a : Int) + m)] 92)) := (Below.refl _ _).alloc (Nat.le_refl _) _
    have hB := Blk.new w 92 #[vi a, vi ((a : Int) + m)]
    have HSH := Lib.hid (shows_any A0 n c l hml hn hup a m (by omega) _ (hs.below hb1))
    have HB1 := Lib.hid hb1
    by_cases hsh : shownB l a m = true
    · have HS0 := Lib.hid hsh
      by_cases h2 : 2 ≤ m
      · have hlf := leftN_lt h2
        have HHL := Lib.hid (show hidL l a m = hidL l a (leftN m) ++ hidL l (a + leftN m) (m - leftN m) by rw [hidL, if_pos hsh, dif_pos h2])
        have HH := Lib.hid (fun w => halves_any a m h2 (by omega) w)
        obtain ⟨j, hj'⟩ : ∃ j, j = leftN m := ⟨_, rfl⟩
        rw [← hj'] at hlf HH HHL
        obtain ⟨hj1, hj2, hj3⟩ := hlf
        have I1 := Lib.hid (fun W (x : J pre W) => ih j hj1 a hj3 (by omega) pre W hpl x)
        have I2 : Hid (∀ W, J (pre ++ hidL l a j) W → Calls Tryz.prog 46 #[.agg #[vi ((a : Int) + j), vi ((a : Int) + m)], .slice A0 n c, .func (.func K) #[] caps] W fun e w' => (∃ r, e = .returned r) ∧ J ((pre ++ hidL l a j) ++ hidL l (a + j) (m - j)) w' ∧ KeepG W w') := Lib.hid (fun W x => by
          have h := ih (m - j) (by omega) (a + j) (by omega) (by omega) (pre ++ hidL l a j) W (by rw [List.length_append]; have := hidL_le' l j a hj3; omega) x
          rw [show a + j + (m - j) = a + m by omega] at h
          simpa [Gp] using h)
        have t1 : decide (1 < (m : Int)) = true := by simp; omega
        have t2 : decide ((1 : Int) < (a : Int) + (m : Int) - (a : Int)) = true := by simp; omega
        have HJ := Lib.hid hj
        have HJB := Lib.hid hJ
        have HBB := Lib.hid hB
        have HSS := Lib.hid hs
        clear hsh hB hb1 ih hJ hJs hY hup hml hj hj' hs
        go_enter Tryz.func46, Tryz.ntmps46
        go_wp2_with fail
        refine HSH.out.mono ?_
        rintro e w2 ⟨rfl, hb2⟩
        rw [HS0.out]
        have hB2 := Blk.below HBB.out hb2 HBB.out.lt
        have e0 := (hB2.cell 0).trans (show _ = some (vi a) from rfl)
        have e1 := (hB2.cell 1).trans (show _ = some (vi ((a : Int) + m)) from rfl)
        have hb02 := HB1.out.trans (hb2.mono HB1.out.size)
        have HB02 := Lib.hid hb02
        clear hB2 hb2 hb02
        go_wp2_with fail
        refine (HH.out w2).mono ?_
        rintro _ w3 ⟨rfl, hb3⟩
        have hb03 := HB02.out.trans (hb3.mono HB02.out.size)
        have HB03 := Lib.hid hb03
        clear e0 e1 hb3 hb03
        go_wp2_with fail
        obtain ⟨q, hq⟩ : ∃ q, q = w3.heap.size := ⟨_, rfl⟩
        obtain ⟨W4, hW4⟩ : ∃ W4, W4 = (w3.alloc (.cells #[vi a, vi ((a : Int) + j)] 92)).alloc (.cells #[vi ((a : Int) + j), vi ((a : Int) + m)] 92) := ⟨_, rfl⟩
        rw [← hW4]
        have hB7 := (Blk.new w3 92 #[vi a, vi ((a : Int) + j)]).alloc (.cells #[vi ((a : Int) + j), vi ((a : Int) + m)] 92)
        have hB8 := Blk.new (w3.alloc (.cells #[vi a, vi ((a : Int) + j)] 92)) 92 #[vi ((a : Int) + j), vi ((a : Int) + m)]
        rw [← hW4, show (w3.alloc (.cells #[vi a, vi ((a : Int) + j)] 92)).heap.size = q + 1 by simp [hq]] at hB8
        rw [← hW4, ← hq] at hB7
        have hb4 : Below w.heap.size w W4 := by rw [hW4]; exact (HB03.out.alloc HB03.out.size _).alloc (by have := HB03.out.size; simp; omega) _
        have hqs := HB03.out.size
        rw [← hq] at hqs ⊢
        clear hW4 hq
        refine (I1.out W4 (HJB.out _ _ _ HJ.out hb4)).mono ?_
        rintro _ w5 ⟨⟨r5, rfl⟩, hj5, hg5⟩
        have hB8' := hg5.2 _ _ hB8
        have e0 := (hB8'.cell 0).trans (show _ = some (vi ((a : Int) + j)) from rfl)
        have e1 := (hB8'.cell 1).trans (show _ = some (vi ((a : Int) + m)) from rfl)
        have HJ5 := Lib.hid hj5
        have HG5 := Lib.hid ((KeepG.of hb4).trans hg5)
        have HX := Lib.hid (I2.out w5 hj5)
        clear hB7 hB8 hB8' hj5 hg5 hb4 I1 I2 HJ
        go_wp2_with fail
        refine HX.out.mono ?_
        rintro _ w6 ⟨⟨r6, rfl⟩, hj6, hg6⟩
        have HFIN : Hid (J (pre ++ hidL l a m) w6 ∧ KeepG w w6) := Lib.hid ⟨by rw [HHL.out, ← List.append_assoc]; exact hj6, HG5.out.trans hg6⟩
        clear hj6 hg6 HX e0 e1
        go_wp2
        go_end0
        exact ⟨⟨_, rfl⟩, HFIN.out.1, HFIN.out.2⟩
      · have e : m = 1 := by omega
        subst e
        have HHL := Lib.hid (show hidL l a 1 = [] by rw [hidL, if_pos hsh, dif_neg h2])
        have HJ := Lib.hid hj
        have HJB := Lib.hid hJ
        have HBB := Lib.hid hB
        clear hsh hB hb1 ih hJ hJs hY hup hml hj
        go_enter Tryz.func46, Tryz.ntmps46
        go_wp2_with fail
        refine HSH.out.mono ?_
        rintro e w2 ⟨rfl, hb2⟩
        rw [HS0.out]
        have hB2 := Blk.below HBB.out hb2 HBB.out.lt
        have e0 := (hB2.cell 0).trans (show _ = some (vi a) from rfl)
        have e1 := (hB2.cell 1).trans (show _ = some (vi ((a : Int) + 1)) from rfl)
        have hb02 := HB1.out.trans (hb2.mono HB1.out.size)
        have HFIN : Hid (J (pre ++ hidL l a 1) w2 ∧ KeepG w w2) := Lib.hid ⟨by rw [HHL.out, List.append_nil]; exact HJB.out _ _ _ HJ.out hb02, KeepG.of hb02⟩
        clear hB2 hb2 hb02
        go_wp2
        go_end0
        exact ⟨⟨_, rfl⟩, HFIN.out.1, HFIN.out.2⟩
    · have HS0 := Lib.hid (show shownB l a m = false by simpa using hsh)
      have HHL := Lib.hid (show hidL l a m = [(a, m)] by rw [hidL, if_neg hsh])
      have HYY := Lib.hid (fun W h => hY pre a m W h hpl h1 ha)
      have HJ := Lib.hid hj
      have HJB := Lib.hid hJ
      have HBB := Lib.hid hB
      clear hsh hB hb1 ih hJ hJs hY hup hml hj
      go_enter Tryz.func46, Tryz.ntmps46
      go_wp2_with fail
      refine HSH.out.mono ?_
      rintro e w2 ⟨rfl, hb2⟩
      rw [HS0.out]
      have hB2 := Blk.below HBB.out hb2 HBB.out.lt
      have e0 := (hB2.cell 0).trans (show _ = some (vi a) from rfl)
      have e1 := (hB2.cell 1).trans (show _ = some (vi ((a : Int) + m)) from rfl)
      have hb02 := HB1.out.trans (hb2.mono HB1.out.size)
      have HB02 := Lib.hid hb02
      clear hB2 hb2 hb02
      go_wp2_with fail
      refine (HYY.out w2 (HJB.out _ _ _ HJ.out HB02.out)).mono ?_
      rintro _ w3 ⟨⟨r3, rfl⟩, hj3, hg3⟩
      have HFIN : Hid (J (pre ++ hidL l a m) w3 ∧ KeepG w w3) := Lib.hid ⟨by rw [HHL.out]; exact hj3, (KeepG.of HB02.out).trans hg3⟩
      clear hj3 hg3 e0 e1
      go_wp2
      exact bodyPost_ret (results_none rfl _ _ _) rfl ⟨⟨_, rfl⟩, HFIN.out.1, HFIN.out.2⟩
theorem step_appR {ops : Array Oper} {o : Oper} {a : Act} {K : Act → World → Prop} {Q : Exit → Act → World → Prop} {E : Prop} (w : World) (A : Option Addr) (n c : Nat) (hgd : o.guard = none) (s x : Operand)
    (ho : o.op = .call { callee := .builtin .append, args := #[s, x], argTypes := #[23, 23] })
    (base : Nat) (v : Value) (us : List Value) (hs : a.eval s = v) (hx : a.eval x = .slice (some ⟨w.heap.size, 0, none⟩) 1 1) (hown : OwnR w base v us) (hlen : us.length < 5864062014805) (hbase : base ≤ w.heap.size)
    (h : ∀ v' w', GrewR w w' base v v' (us ++ [.slice A n c]) → K (a.put o.dst v') w') :
    if Region.wanted o (yielded ops a.tmps) = true then Oper.wp Tryz.prog o a (w.alloc (.cells #[.slice A n c] 22)) K Q else E := by
  have hw : Region.wanted o (yielded ops a.tmps) = true := by simp [Region.wanted, hgd]
  rw [if_pos hw]
  obtain ⟨v', w', hrun, hg⟩ := run_appR w base v us A n c hown hlen hbase o.type
  unfold Oper.wp execOp
  simp only [ho, resolve, invoke, builtin, Sem.run_bind, Sem.run_pure, Result.andThen_ok, List.map_toArray, List.map_cons, List.map_nil, hs, hx, hrun]
  exact h v' w' hg
theorem grownBy_new {w0 w w' : World} {ob : Nat} {row : Option Nat} (h : w0.grownBy w (some ob)) (hg : w.grownBy w' row) (hr : ∀ k, row = some k → w0.heap.size ≤ k) : w0.grownBy w' (some ob) :=
  ⟨hg.os.trans h.os, hg.tape.trans h.tape, hg.output.trans h.output, Nat.le_trans h.size hg.size, fun i hi hne => (hg.block i (Nat.lt_of_lt_of_le hi h.size) (fun e => by have := hr i e.symm; omega)).trans (h.block i hi hne)⟩
/-- the roots that are kept so far -/
def NodesJ (H : Nat × Nat → List Int) (W4 : World) (ob : Nat) (ov rv : Value) (pre : List (Nat × Nat)) (W : World) : Prop :=
  ∃ nv vs, Blk W ob 25 #[ov, rv, nv] ∧ OwnR W W4.heap.size nv vs ∧ UsAt W vs (pre.map H) ∧ W4.grownBy W (some ob)
theorem NodesJ.below {H : Nat × Nat → List Int} {W4 : World} {ob : Nat} {ov rv : Value} {pre : List (Nat × Nat)} {W W' : World} (h : NodesJ H W4 ob ov rv pre W) (hb : Below W.heap.size W W') : NodesJ H W4 ob ov rv pre W' := by
  obtain ⟨nv, vs, h1, h2, h3, h4⟩ := h
  exact ⟨nv, vs, Blk.below h1 hb h1.lt, OwnR.below h2 hb, h3.below hb, grownBy_trans h4 (grown_of_below hb _)⟩
/-- one root more is kept -/
theorem NodesJ.push {H : Nat × Nat → List Int} {W4 W3 W5 : World} {ob g c : Nat} {ov rv nv v' : Value} {vs : List Value} {t : TypeId} {cs : Array Value} {pre : List (Nat × Nat)} {x : Nat × Nat} (hob : ob < W4.heap.size)
    (h1 : Blk W3 ob 25 #[ov, rv, nv]) (h2 : OwnR W3 W4.heap.size nv vs) (h3 : UsAt W3 vs (pre.map H)) (h4 : W4.grownBy W3 (some ob))
    (hg : Blk W3 g t cs) (ht1 : t ≠ 22) (ht2 : t ≠ 25) (hs : SL W3 (some ⟨g, 0, none⟩) (H x)) (hl : (H x).length = 4) (hi : ∀ y ∈ H x, I64 y)
    (hG : GrewR W3 W5 W4.heap.size nv v' (vs ++ [.slice (some ⟨g, 0, none⟩) 4 c])) :
    Blk W5 ob 25 #[ov, rv, nv] ∧ NodesJ H W4 ob ov rv (pre ++ [x]) (W5.setCell ⟨ob, 2, none⟩ v') ∧ KeepG W3 (W5.setCell ⟨ob, 2, none⟩ v') := by
  have hne : some ob ≠ nv.ownBlock := fun e => by
    have := (World.ownsRow.lt h2 ob e.symm).1
    omega
  have hb := Blk.grown h1 hG.grown hne
  have hs' : W5.grownBy (W5.setCell ⟨ob, 2, none⟩ v') (some ob) := blk_grown
  have hu := UsAt.grew hG h2 (h3.app (UsAt.one (c := c) hg ht1 ht2 hs hl hi))
  rw [show pre.map H ++ [H x] = (pre ++ [x]).map H by simp] at hu
  exact ⟨hb, ⟨v', _, hb.set_ 2 v', ownR_past hG.own hs' hob, hu.far hb (.inr rfl) hs', grownBy_trans (grownBy_new h4 hG.grown fun k hk => (World.ownsRow.lt h2 k hk).1) hs'⟩, (KeepG.grew hG h2).trans (KeepG.one hb (by decide) hs')⟩
end Go.Proofs.YtijhajkakmohnaaGreatDoor
