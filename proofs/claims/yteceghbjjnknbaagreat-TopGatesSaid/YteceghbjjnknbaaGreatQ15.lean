/- A bundle of texts: Pc2, Pa7, Pc3, Pc4, Pa4, Nk. -/
import Derived.Test.YteceghbjjnknbaaGreatQ13
import Derived.Test.YteceghbjjnknbaaGreatQ14
import Derived.Test.YteceghbjjnknbaaGreatQ05
import Derived.Test.YteceghbjjnknbaaGreatQ06
import Derived.Test.YteceghbjjnknbaaGreatQ11
import Derived.Test.YteceghbjjnknbaaGreatQ10
set_option linter.unusedVariables false
set_option linter.unusedSimpArgs false
namespace Go.Proofs.YteceghbjjnknbaaGreat
open Go.RowKit Go.Shelf Zp
attribute [local go_sem] Oper.semAt_some
theorem wpListIn_app1 {l m : Nat} {ops : Array Oper} {rest : List Oper} {o : Oper} {a : Act} {Q : Exit → Act → World → Prop} (w : World) (n : Int) (hgd : o.guard = none) (s x : Operand)
    (ho : o.op = .call { callee := .builtin .append, args := #[s, x], argTypes := #[25, 25] })
    (base : Nat) (v : Value) (xs : List Int) (hs : a.eval s = v) (hx : a.eval x = .slice (some ⟨w.heap.size, 0, none⟩) 1 1) (hown : Own w base v xs) (hlen : xs.length < 17592186044416) (hbase : base ≤ w.heap.size)
    (h : ∀ v' w', Grew w w' base v v' (xs ++ [n]) → wpListIn (Fence.wide.inRound l) m Tryz.prog ops Q rest (a.put o.dst v') w') : wpListIn (Fence.wide.inRound l) m Tryz.prog ops Q (o :: rest) a (w.alloc (.cells #[vi n] 3)) :=
  wpListIn_plain hgd fun K hK => operIn_of_wp (by rw [ho]; intro c h; cases h) (by
    obtain ⟨v', w', hrun, hg⟩ := run_app1 w base v xs n hown hlen hbase o.type
    unfold Oper.wp execOp
    simp only [ho, resolve, invoke, builtin, Sem.run_bind, Sem.run_pure, Result.andThen_ok, List.map_toArray, List.map_cons, List.map_nil, hs, hx, hrun]
    exact hK _ _ (h v' w' hg))
theorem wpListIn_appR {l m : Nat} {ops : Array Oper} {rest : List Oper} {o : Oper} {a : Act} {Q : Exit → Act → World → Prop} (w : World) (A : Option Addr) (n c : Nat) (hgd : o.guard = none) (s x : Operand)
    (ho : o.op = .call { callee := .builtin .append, args := #[s, x], argTypes := #[36, 36] })
    (base : Nat) (v : Value) (us : List Value) (hs : a.eval s = v) (hx : a.eval x = .slice (some ⟨w.heap.size, 0, none⟩) 1 1) (hown : OwnR w base v us) (hlen : us.length < 5864062014805) (hbase : base ≤ w.heap.size)
    (h : ∀ v' w', GrewR w w' base v v' (us ++ [.slice A n c]) → wpListIn (Fence.wide.inRound l) m Tryz.prog ops Q rest (a.put o.dst v') w') : wpListIn (Fence.wide.inRound l) m Tryz.prog ops Q (o :: rest) a (w.alloc (.cells #[.slice A n c] 25)) :=
  wpListIn_plain hgd fun K hK => operIn_of_wp (by rw [ho]; intro c h; cases h) (by
    obtain ⟨v', w', hrun, hg⟩ := run_appR w base v us A n c hown hlen hbase o.type
    unfold Oper.wp execOp
    simp only [ho, resolve, invoke, builtin, Sem.run_bind, Sem.run_pure, Result.andThen_ok, List.map_toArray, List.map_cons, List.map_nil, hs, hx, hrun]
    exact hK _ _ (h v' w' hg))
def rowsOf {p c : Nat} [NeZero p] (T : Nat → Fin p) (b : Nat) (pre : List (Fin c)) : List (List Int) := pre.map fun y => fvs (prow p T b y.1)
theorem rowsOf_upto {p c : Nat} [NeZero p] (T : Nat → Fin p) (b : Nat) (hc : 0 < c) : rowsOf T b (upto (chF hc) c) = rowsP T b c := by
  unfold rowsOf rowsP upto
  rw [List.map_map]
  refine List.map_congr_left fun i hi => ?_
  have hi' : i < c := by simpa using hi
  show fvs (prow p T b (chF hc i).1) = _
  rw [chF_val hc hi']
theorem rowsOf_snoc {p c : Nat} [NeZero p] (T : Nat → Fin p) (b : Nat) (pre : List (Fin c)) (y : Fin c) : rowsOf T b (pre ++ [y]) = rowsOf T b pre ++ [fvs (prow p T b y.1)] := by simp [rowsOf]
def RowsInv {c p : Nat} [NeZero p] (T : Nat → Fin p) (b x : Nat) (w W0 : World) (pre : List (Fin c)) (W : World) : Prop :=
  ∃ (v : Value) (us : List Value), (Blk W w.heap.size 97 #[.pointer (some ⟨x, 0, none⟩)] ∧ Blk W (w.heap.size + 1) 36 #[v] ∧ OwnR W W0.heap.size v us ∧ RowsOwn W W0.heap.size us (rowsOf T b pre) ∧ W0.heap.size ≤ W.heap.size)
theorem rowsInv_own {c p : Nat} [NeZero p] (T : Nat → Fin p) (b x : Nat) (w W0 : World) : Go.Own (RowsInv (c := c) T b x w W0) := fun s A B row hs hg hr => by
  obtain ⟨v, us, h1, h2, h3, h4, h5⟩ := hs
  exact ⟨v, us, blk_kept h1 hg hr, blk_kept h2 hg hr, ownsRow_kept h3 hg hr, ⟨h4.1, fun k q1 q2 => ownsRow_kept (h4.2 k q1 q2) hg hr⟩, Nat.le_trans h5 hg.size⟩
set_option maxRecDepth 100000 in
set_option maxHeartbeats 4000000 in
theorem rows_any (p S b x Dd v : Nat) [NeZero p] (hv : v ≤ 12) (A : Option Addr) (n cA : Nat) (l : List Int) (hl : l.length = n) (hI : ∀ x ∈ l, I64 x) (hne : n = 2 ^ v) (hnc : n ≤ cA) (hcA : cA ≤ 9223372036854775807) (w : World) (F : Fld w S b p) (hX : ShapeAt w x b Dd v) (hs : SL w A l) :
    Calls Tryz.prog 34 #[.pointer (some ⟨x, 0, none⟩), .slice A n cA] w (MadeRows (rowsP (fun t => co (els p l) t) (v - v / 2) (2 ^ (v / 2))) w) := by
  refine (callsIn_wide (n := 3)).1 ?_
  have hro : (Fence.wide).round = none := rfl
  have h1 : 1 ≤ 3 := by omega
  have hp2 := F.max
  obtain ⟨b2, hb2⟩ : ∃ b2, b2 = v - v / 2 := ⟨_, rfl⟩
  obtain ⟨wd, hwd⟩ : ∃ wd, wd = 2 ^ b2 := ⟨_, rfl⟩
  obtain ⟨cc, hcc⟩ : ∃ cc, cc = 2 ^ (v / 2) := ⟨_, rfl⟩
  have hnw : n = wd * cc := by rw [hne, hwd, hcc, ← Nat.pow_add]; congr 1; omega
  have hw1 : 1 ≤ wd := by rw [hwd]; exact Nat.pow_pos (by omega)
  have hc1 : 1 ≤ cc := by rw [hcc]; exact Nat.pow_pos (by omega)
  have hb6 : b2 ≤ 12 := by omega
  have hw2 : wd ≤ 4096 := by rw [hwd]; exact Nat.pow_le_pow_right (n := 2) (by omega) hb6
  have hc2 : cc ≤ 4096 := by rw [hcc]; exact Nat.pow_le_pow_right (n := 2) (by omega) (show v / 2 ≤ 12 by omega)
  have hpw : ((2 : Int) ^ b2) = (wd : Int) := by rw [hwd, Int.natCast_pow]; rfl
  have hmin : min b2 64 = b2 := by omega
  have hww : IntKind.i64.wrap (wd : Int) = (wd : Int) := IntWalk.i64_in _ (by constructor <;> omega)
  unfold ShapeAt at hX
  rw [← hb2] at hX ⊢
  rw [← hcc]
  have hn1 : 1 ≤ n := by rw [hnw]; exact Nat.mul_pos hw1 hc1
  obtain ⟨ad, rfl, had, hcl⟩ := hs.2 (by omega)
  have hE : ∀ (i j : Nat) (hj : j < wd) (hi : i * wd + j < l.length), (fvs (prow p (fun t => co (els p l) t) b2 i))[j]? = some (fv (el p l[i * wd + j])) := by
    subst hwd
    intro i j hj hi
    rw [List.getElem?_eq_getElem (by simp only [fvs, List.length_map]; rw [prow_len]; exact hj), prow_el b2 l hj hi]
  obtain ⟨T, hT⟩ : ∃ T : Nat → Fin p, T = fun t => co (els p l) t := ⟨_, rfl⟩
  rw [← hT]
  rw [← hT] at hE
  have hlenR : ∀ i, (fvs (prow p T b2 i)).length = wd := fun i => by simp only [fvs, List.length_map]; rw [prow_len, hwd]
  have hx3 := (hX.cell 3).trans (show _ = some (vi (b2 : Int)) from rfl)
  have hba : Below w.heap.size w ((w.alloc (.cells #[.pointer (some ⟨x, 0, none⟩)] 97)).alloc (.cells #[.slice none 0 0] 36)) := ((Below.refl _ _).alloc (Nat.le_refl _) _).alloc (by simp) _
  have hBs := (Blk.new w 97 #[.pointer (some ⟨x, 0, none⟩)]).alloc (.cells #[.slice none 0 0] 36)
  have hBo := Blk.new (w.alloc (.cells #[.pointer (some ⟨x, 0, none⟩)] 97)) 36 #[.slice none 0 0]
  rw [World.size_alloc] at hBo
  obtain ⟨w2, hw2e⟩ : ∃ w2 : World, w2 = (w.alloc (.cells #[.pointer (some ⟨x, 0, none⟩)] 97)).alloc (.cells #[.slice none 0 0] 36) := ⟨_, rfl⟩
  have hsz2 : w2.heap.size = w.heap.size + 2 := by rw [hw2e]; simp
  have q3 := (hba.cell (block_lt_of_cell hx3)).trans hx3
  have q0 := (hBs.cell 0).trans (show _ = some (.pointer (some ⟨x, 0, none⟩)) from rfl)
  rw [← hw2e] at hba hBs hBo
  have HBA := Lib.hid (And.intro hba (And.intro hBs hBo))
  have HW2 := Lib.hid hw2e
  have HX := Lib.hid hX
  have HCL := Lib.hid hcl
  have HE := Lib.hid hE
  have HLR := Lib.hid hlenR
  have HNW := Lib.hid hnw
  have HL := Lib.hid hl
  have HI := Lib.hid hI
  have HF := Lib.hid F
  clear hba hBs hBo hw2e hX hcl hE hlenR hnw hne hl hI F hT hwd hcc hb2 hs
  refine callsIn_of_wp_marks Tryz.func34 rfl trivial ?_ hro
  simp only [Tryz.ntmps34, List.size_toArray, List.length_cons, List.length_nil, Nat.reduceAdd, Nat.reduceSub, Array.replicate_succ, Array.replicate_zero, List.push_toArray, List.append_toArray, List.nil_append, List.cons_append]
  gi_wp2_with (refine ⟨trivial, ?_⟩; gi_at_call 83; rw [← HW2.out]; refine (callsIn_wide.2 (chunkW_any wd hw1 (by omega) _ _ _ _)).mono ?_; rintro e w' ⟨rfl, rfl⟩)
  obtain ⟨W0, hW0⟩ : ∃ W0 : World, W0 = (w2.alloc (.cells #[.slice (some ad) n cA] 25)).alloc (.cells #[vi wd] 3) := ⟨_, rfl⟩
  obtain ⟨k0, hk0⟩ : ∃ k0, k0 = w.heap.size := ⟨_, rfl⟩
  have hsz : W0.heap.size = k0 + 4 := by rw [hW0, hk0]; simp [hsz2]
  have hb20 : Below w2.heap.size w2 W0 := by rw [hW0]; exact ((Below.refl _ w2).alloc (Nat.le_refl _) _).alloc (by simp) _
  have hbel : Below w.heap.size w W0 := HBA.out.1.trans (hb20.mono HBA.out.1.size)
  have bS : Blk W0 k0 97 #[.pointer (some ⟨x, 0, none⟩)] := by rw [hk0]; exact HBA.out.2.1.below hb20 (by omega)
  have bO : Blk W0 (k0 + 1) 36 #[.slice none 0 0] := by rw [hk0]; exact HBA.out.2.2.below hb20 (by omega)
  have bL : Blk W0 (k0 + 2) 25 #[.slice (some ad) n cA] := by rw [hW0, hk0, ← hsz2]; exact (Blk.new _ _ _).alloc _
  have bN : Blk W0 (k0 + 2 + 1) 3 #[vi wd] := by
    rw [hW0, hk0, show w.heap.size + 2 + 1 = w2.heap.size + 1 by omega]
    have := Blk.new (w2.alloc (.cells #[.slice (some ad) n cA] 25)) 3 #[vi wd]
    rw [World.size_alloc] at this; exact this
  have hI0 : RowsInv (c := cc) T b2 x w W0 [] W0 := ⟨.slice none 0 0, [], by rw [← hk0]; exact bS, by rw [← hk0]; exact bO, World.ownsRow_nil _ _ _ _, RowsOwn.nil _ _, Nat.le_refl _⟩
  rw [← hW0]
  rw [← hk0]
  clear hW0 hb20 bS bO
  refine wpIn_rangeFunc_ownG hro h1 (gf := 112) (lb := #[.pointer (some ⟨k0 + 2, 0, none⟩), .pointer (some ⟨k0 + 2 + 1, 0, none⟩)]) rfl trivial (enters_of Tryz.func112 (by kernel_rfl) rfl)
    (chunkW_stops wd hw1 (3 - 1) (by omega) (k0 + 2) (k0 + 2 + 1) (k0 + 4) (k0 + 1) (by omega) (by omega) ad n cc cA hc1 HNW.out hnc hcA W0 (by omega) (by omega) (by omega) (by omega) (by rw [bL.cell]; rfl) (by rw [bN.cell]; rfl))
    KeepBut.trans (KeepBut.put (by omega)) (Below.refl _ _) (fun _ => rfl)
    (fun pre W => RowsInv T b2 x w W0 pre W ∧ Below w.heap.size w W)
    (fun _ _ _ => False)
    (OwnFrom.and (Own.from (rowsInv_own T b2 x w W0) _) (ownFrom_below (Nat.le_refl _) (by omega)))
    (fun _ _ _ _ _ hs _ _ => hs)
    ⟨hI0, hbel⟩
    (fun y => { tmps := #[.pointer (some ⟨x, 0, none⟩), .slice (some ad) n cA, .pointer (some ⟨k0, 0, none⟩), undef, .slice none 0 0, .pointer (some ⟨k0 + 1, 0, none⟩), .slice (some (ad.add (wd * y.1))) wd wd, undef, undef, undef, .slice (some ad) n cA, .pointer (some ⟨x, 0, none⟩), .pointer (some ⟨x, 0, none⟩), .pointer (some ⟨x, 3, none⟩), vi (b2 : Int), vi (wd : Int), .func (.func 112) #[] #[.pointer (some ⟨k0 + 2, 0, none⟩), .pointer (some ⟨k0 + 2 + 1, 0, none⟩)], .slice (some (ad.add (wd * y.1))) wd wd, undef, undef, undef, undef, undef, undef, undef, undef, undef, undef, undef, undef, undef, undef, undef, undef, undef, undef, undef, undef, undef], defers := [] }) ?assign ?body ?done ?stop
  case assign =>
    intro l y W K hK
    clear hk0
    gi_wp2
    exact hK
  case body =>
    rintro l9 pre y W ⟨⟨v, us, bS, bO, hO, hR, hszW⟩, hB⟩ hpl
    have h1' : 1 ≤ 3 - 1 - 1 := by omega
    have hmx : Tryz.prog.follows .mixedOrders = true := by kernel_rfl
    obtain ⟨Y, hY⟩ : ∃ Y : Nat, Y = y.1 := ⟨_, rfl⟩
    have hYC : Y < cc := by rw [hY]; exact y.2
    rw [← hk0] at bS bO
    have HK0 := Lib.hid hk0
    clear hk0
    rw [← hY]
    have hql : wd * Y + wd ≤ n := by rw [HNW.out, ← Nat.mul_succ]; exact Nat.mul_le_mul_left wd hYC
    have hus : us.length < 5864062014805 := by rw [hR.1, rowsOf, List.length_map]; omega
    have HS0 := Lib.hid (And.intro bS (And.intro bO (And.intro hO (And.intro hR (And.intro hszW hB)))))
    have HY := Lib.hid hY
    clear bS bO hO hR hszW hB hY
    gi_wp2
    gi_loopw [20, 7, 9] (fun i u _ wr => ∃ j : Nat, j ≤ wd ∧ i = vi j ∧ Own wr W.heap.size u ((fvs (prow p T b2 Y)).take j) ∧ Below W.heap.size W wr) (fun i _ _ _ => wd - (intOf i).toNat)
    case atStart => exact ⟨0, by omega, rfl, World.ownsRow_nil _ _ _ _, Below.refl _ _⟩
    case round =>
      obtain ⟨j, hj, rfl, ho, hb⟩ := hrel
      by_cases hjw : j < wd
      · have hbw := HS0.out.2.2.2.2.2.trans (hb.mono HS0.out.2.2.2.2.2.size)
        have i1 : (0 : Int) ≤ (j : Int) := by omega
        have i2 : (j : Int) < (wd : Int) := by omega
        have hxl : Y * wd + j < l.length := by rw [HL.out, Nat.mul_comm]; omega
        have hcx : wr.cell? ((ad.add (wd * Y)).add j) = some (vi l[Y * wd + j]) := by
          rw [add_of_add, Nat.mul_comm wd Y]
          have h := HCL.out (Y * wd + j) (vi l[Y * wd + j]) (by rw [List.getElem?_map, List.getElem?_eq_getElem hxl]; rfl)
          exact (hbw.cell (p := ad.add (Y * wd + j)) (by rw [block_of_add]; exact had)).trans h
        have hIx := HI.out _ (List.getElem_mem hxl)
        have hEx := HE.out Y j hjw hxl
        obtain ⟨X, hXe⟩ : ∃ X, X = l[Y * wd + j] := ⟨_, rfl⟩
        rw [← hXe] at hcx hIx hEx
        have htk : (fvs (prow p T b2 Y)).take (j + 1) = (fvs (prow p T b2 Y)).take j ++ [fv (el p X)] := by
          rw [List.take_add_one, hEx]; rfl
        have hlt : ((fvs (prow p T b2 Y)).take j).length < 17592186044416 := by rw [List.length_take]; omega
        have hc0 : wr.cell? ⟨k0, 0, none⟩ = some (.pointer (some ⟨x, 0, none⟩)) := ((HS0.out.1.below hb HS0.out.1.lt).cell 0).trans rfl
        have hxw := HX.out.below hbw HX.out.lt
        have x0 := (hxw.cell 0).trans (show _ = some (.pointer (some ⟨b, 0, none⟩)) from rfl)
        have hOF := of_any p (by have := HF.out.two; omega) hp2 b X hIx wr ((hbw.cell (p := ⟨b, 0, none⟩) (Nat.lt_of_lt_of_le HF.out.lt HF.out.le)).trans HF.out.c0)
        rw [← fv_el] at hOF
        have HOF := Lib.hid hOF
        have HO := Lib.hid ho
        have HB := Lib.hid hb
        have HTK := Lib.hid (And.intro htk hlt)
        clear ho hb hbw hxl hIx hEx hXe htk hlt hxw hOF
        gi_wp2_with (first | (refine ⟨trivial, ?_⟩; gi_at_call 19; refine (CallsIn.inRound l9 (callsIn_wide.2 HOF.out)).mono ?_; rintro _ _ ⟨rfl, rfl⟩) | (refine wpListIn_app1 wr (fv (el p X)) rfl _ _ rfl W.heap.size u7 ((fvs (prow p T b2 Y)).take j) rfl rfl HO.out HTK.out.2 HB.out.size ?_; intro v7 w7 hg7; obtain ⟨A7, n7, c7, rfl, hl7, _, _, _⟩ := hg7.own.shapeN))
        have hfin := hg7.below HB.out HO.out (Nat.le_refl _) HB.out.size
        have hown7 := hg7.own
        rw [← HTK.out.1] at hown7
        go_roundw
        case rel => exact ⟨j + 1, by omega, by go_num, hown7, hfin⟩
        case measure => simp [intOf]; omega
      · obtain rfl : j = wd := by omega
        rw [List.take_of_length_le (by rw [HLR.out]; exact Nat.le_refl _)] at ho
        obtain ⟨A7, n7, c7, rfl, hl7, _, _, _⟩ := ho.shapeN
        obtain ⟨hS1, hS2, hS3, hS4, hS5, hS6⟩ := HS0.out
        have hb4 := hS2.below hb hS2.lt
        have hO4 : OwnR wr W0.heap.size v us := OwnR.below hS3 hb
        have hR4 := hS4.below hb
        have hbw := hS6.trans (hb.mono hS6.size)
        have o4 := (hb4.cell 0).trans (show _ = some v from rfl)
        have hrow : ∀ q, v.ownBlock = some q → k0 + 4 ≤ q := fun q hq => by have := (World.ownsRow.lt hO4 q hq).1; omega
        have HALL := Lib.hid (And.intro ho (And.intro hb (And.intro hb4 (And.intro hO4 (And.intro hR4 (And.intro hbw hrow))))))
        obtain ⟨A0, n0, c0, hv0, _, _⟩ := ownR_shape hS3
        subst hv0
        clear ho hb hb4 hO4 hR4 hbw hrow hS1 hS2 hS3 hS4 hS5 hS6
        gi_wp2_with (refine wpListIn_appR wr A7 n7 c7 rfl _ _ rfl W0.heap.size (.slice A0 n0 c0) us rfl rfl HALL.out.2.2.2.1 hus (by have h1 := HALL.out.2.1.size; have h2 := HS0.out.2.2.2.2.1; omega) ?_; intro v8 w8 hg8; have hB8 := HALL.out.2.2.1.grown hg8.grown (fun e => by have := HALL.out.2.2.2.2.2.2 _ e.symm; omega); have x8 := (hB8.cell 0).trans (show _ = some (.slice A0 n0 c0) from rfl); have z8 := hB8.frozen 0; obtain ⟨A8, n8, c8, rfl, hl8, _⟩ := ownR_shape hg8.own)
        obtain ⟨ho, hb, hb4, hO4, hR4, hbw, hrow⟩ := HALL.out
        obtain ⟨hS1, hS2, hS3, hS4, hS5, hS6⟩ := HS0.out
        have hk : k0 = w.heap.size := HK0.out
        have hset : w8.grownBy (w8.setCell ⟨k0 + 1, 0, none⟩ (.slice A8 n8 c8)) (some (k0 + 1)) := blk_grown
        have hlo : k0 + 1 < W0.heap.size := by omega
        have hKO : KeepsOthers W (w8.setCell ⟨k0 + 1, 0, none⟩ (.slice A8 n8 c8)) := ((keeps_below hb).trans (keeps_grown hg8.grown (fun q hq => by
          obtain ⟨cs, hcs⟩ := row_blk hO4 hq
          exact ⟨_, cs, hcs⟩))).trans (KeepsOthers.setCell w8 ⟨k0 + 1, 0, none⟩ _)
        have hKB : KeepBut (k0 + 4) (k0 + 1) W (w8.setCell ⟨k0 + 1, 0, none⟩ (.slice A8 n8 c8)) := fun q hq hne => by
          have e1 : wr.heap[q]? = W.heap[q]? := hb.block q (by omega)
          have e2 : w8.heap[q]? = wr.heap[q]? := hg8.grown.block q (by have := hb.size; omega) (fun e => by have := hrow q e.symm; omega)
          exact (Below.heap_setCell w8 ⟨k0 + 1, 0, none⟩ _ q hne).trans (e2.trans e1)
        have ho' := ho.more (show W0.heap.size ≤ W.heap.size from hS5)
        have hr8 := (hg8.rows hO4 hR4).snoc (ho'.grown hg8.grown (own_ne ho' hO4))
        have hy : (fvs (prow p T b2 Y)) = fvs (prow p T b2 y.1) := by rw [HY.out]
        rw [hy, ← rowsOf_snoc] at hr8
        have hb8 : Below w.heap.size w w8 := hg8.below hbw hO4 (by omega) hbw.size
        refine ⟨hKO.from _, hKB, ⟨.slice A8 n8 c8, us ++ [.slice A7 n7 c7], ?_, ?_, ownR_past hg8.own hset hlo, rowsOwn_past hr8 hset hlo, ?_⟩, ?_⟩
        · rw [← hk]
          exact (hKB k0 (by omega) (by omega)).trans hS1
        · rw [← hk]
          exact hB8.set_ 0 _
        · exact Nat.le_trans hS5 (Nat.le_trans hb.size (Nat.le_trans hg8.grown.size hset.size))
        · exact hb8.setCell (p := ⟨k0 + 1, 0, none⟩) (by show w.heap.size ≤ k0 + 1; omega) _
  case done =>
    rintro D ys W hD rfl ⟨hI1, hB⟩ hK
    have hbD : ∀ B : Nat, B ≤ W0.heap.size → ∀ o', Below B W (W.putObj D o') := fun B hBB o' => belowK_b (n₀ := B) (w := W0) hBB W D _ o' hD hK rfl rfl
    obtain ⟨v, us, bS, bO, hO, hR, hszW⟩ := hI1
    obtain ⟨A0, n0, c0, rfl, _, _⟩ := ownR_shape hO
    rw [← hk0] at bO
    have o4 := (bO.cell 0).trans (show _ = some (.slice A0 n0 c0) from rfl)
    have hO2 := fun o' => ownsRow_kept hO (grownBy_putObj' W D o') (fun r e => by cases e; exact ⟨_, hK, rfl⟩)
    have hR2 : ∀ o', RowsOwn (W.putObj D o') w.heap.size us (rowsP T b2 cc) := fun o' => by
      rw [← rowsOf_upto T b2 hc1]
      exact ⟨hR.1, fun k q1 q2 => Own.more (ownsRow_kept (hR.2 k q1 q2) (grownBy_putObj' W D o') (fun r e => by cases e; exact ⟨_, hK, rfl⟩)) hbel.size⟩
    have HO2 := Lib.hid hO2
    have HR2 := Lib.hid hR2
    have HBD := Lib.hid hbD
    have HB := Lib.hid hB
    have HK := Lib.hid hK
    clear hO2 hR2 hbD hB hK hO hR hszW bS bO
    have HK0 := Lib.hid hk0
    clear hk0
    gi_wp2
    refine ⟨by simp, .inl ⟨_, _, rfl, run_takeDeferred HK.out, ?_⟩⟩
    exact ⟨_, results_tmp rfl _ _ _, .slice A0 n0 c0, us, rfl, OwnR.moreB (HO2.out _) hbel.size, HR2.out _, HB.out.trans (HBD.out w.heap.size hbel.size _)⟩
  case stop =>
    rintro D c pre W _ _ h _
    exact h.elim
end Go.Proofs.YteceghbjjnknbaaGreat

namespace Go.Proofs.YteceghbjjnknbaaGreat
open Go.RowKit Zp
theorem addZ (g i : Nat) : (⟨g, 0, none⟩ : Addr).add i = ⟨g, i, none⟩ := by
  by_cases h : i = 0
  · subst h; rfl
  · simp [Addr.add, h]
set_option maxRecDepth 100000 in
set_option maxHeartbeats 4000000 in
theorem weighed_any (p S b : Nat) [NeZero p] (KN g1 g2 : Nat) (hKK : ∀ (args : Array Value) (w : World), (callFunc KN args).run Tryz.prog w = .ok (.enter KN args) w) (wt : Nat → Fin p) (A : Option Addr) (R cA M : Nat) (rows : List (List Int)) (hR : rows.length = R) (hR1 : 1 ≤ R) (hR2 : R ≤ 4096) (hM : ∀ l ∈ rows, l.length = M) (hM2 : M ≤ 4096) (w : World) (F : Fld w S b p) (hT : TB w A rows)
    (hW : ∀ W, Below w.heap.size w W → ∀ i, i < R → Calls Tryz.prog KN #[vi i, .pointer (some ⟨g1, 0, none⟩), .pointer (some ⟨g2, 0, none⟩)] W fun e w' => e = .returned (vi (fv (wt i))) ∧ ∃ k, w' = W.drewN k) :
    Calls Tryz.prog 38 #[.pointer (some ⟨b, 0, none⟩), .slice A R cA, .func (.func KN) #[] #[.pointer (some ⟨g1, 0, none⟩), .pointer (some ⟨g2, 0, none⟩)]] w fun e w' => Made (fvs (wgL rows wt M R 0)) w e w' := by
  have hp2 := F.max
  have hmk := make_ints M M (Nat.le_refl _) (by omega)
  obtain ⟨ad, A0, n0, c0, rfl, ha0, hc0, hl0, hn0, hs0, -⟩ := hT 0 (by omega)
  have ea0 : ad.add 0 = ad := by cases ad; simp [Addr.add]
  rw [ea0] at hc0
  have hn0e : n0 = M := by rw [← hl0]; exact hM _ (List.getElem_mem _)
  subst hn0e
  obtain ⟨g, hg⟩ : ∃ g, g = w.heap.size := ⟨_, rfl⟩
  obtain ⟨w1, hw1⟩ : ∃ w1, w1 = w.alloc (.cells (zeros n0) 3) := ⟨_, rfl⟩
  have hb1 : Below w.heap.size w w1 := by rw [hw1]; exact (Below.refl _ _).alloc (Nat.le_refl _) _
  have hB1 : Blk w1 g 3 (visA (fvs (wgL rows wt n0 0 0))) := by
    have e : fvs (wgL rows wt n0 0 0) = List.replicate n0 0 := by
      rw [wgL_zero]
      simp [fvs, tab, fv_zero, List.map_const']
    rw [e, ← visA_zeros, hw1, hg]
    exact Blk.new _ _ _
  have HT := Lib.hid hT
  have HM := Lib.hid hM
  have HR := Lib.hid hR
  have HF := Lib.hid F
  have HW := Lib.hid hW
  have HB1 := Lib.hid (And.intro hB1 hb1)
  have HW1 := Lib.hid hw1
  have HG := Lib.hid hg
  clear F hT hW hR hM hb1 hB1 hw1 hg hl0 hs0 ea0 ha0
  go_enter Tryz.func38, Tryz.ntmps38
  go_upto_region 2 with (fail)
  rw [← HW1.out, ← HG.out]
  go_wp2
  go_loopw [20] (fun i wr => ∃ r : Nat, r ≤ R ∧ i = vi r ∧ Blk wr g 3 (visA (fvs (wgL rows wt n0 r 0))) ∧ Below w.heap.size w wr) (fun i _ => R - (intOf i).toNat)
  case atStart => exact ⟨0, Nat.zero_le _, rfl, HB1.out.1, HB1.out.2⟩
  case round =>
    rename World => w2
    obtain ⟨r, hr, rfl, hB, hb⟩ := hrel
    by_cases hrR : r < R
    · obtain ⟨ad', A1, n1, c1, e', ha1, hc1, hl1, hn1, hs1, hi1⟩ := HT.out r (by rw [HR.out]; exact hrR)
      have hc2 := (hb.cell ha1).trans hc1
      injection e' with e'
      subst e'
      have hn1e : n1 = n0 := by rw [← hl1]; exact HM.out _ (List.getElem_mem _)
      subst hn1e
      have i1 : (0 : Int) ≤ (r : Int) := by omega
      have i2 : (r : Int) < (R : Int) := by omega
      have HWR := Lib.hid (HW.out w2 hb r hrR)
      have HX := Lib.hid (And.intro hB (And.intro hb (And.intro hl1 (And.intro hs1 hi1))))
      clear hB hb hl1 hs1 hi1 ha1
      go_wp2_with fail
      refine HWR.out.mono ?_
      rintro _ w3 ⟨rfl, k3, h3⟩
      have hB3 : Blk w3 g 3 (visA (fvs (wgL rows wt n1 r 0))) := by rw [h3]; exact HX.out.1.drewN _
      have hb23 : Below w2.heap.size w2 w3 := by rw [h3]; exact below_drewN (Below.refl _ _) _
      have HX3 := Lib.hid (And.intro hB3 (HX.out.2.1.trans (hb23.mono HX.out.2.1.size)))
      clear h3 hB3 hb23
      go_wp2
      go_loopw [30] (fun i wr => ∃ k : Nat, k ≤ n1 ∧ i = vi k ∧ Blk wr g 3 (visA (fvs (wgL rows wt n1 r k))) ∧ Below w.heap.size w wr) (fun i _ => n1 - (intOf i).toNat)
      case atStart => exact ⟨0, Nat.zero_le _, rfl, HX3.out.1, HX3.out.2⟩
      case round =>
        rename World => w4
        obtain ⟨k, hk, rfl, hB4, hb4⟩ := hrel
        by_cases hkn : k < n1
        · have hkr : k < (rows[r]'(by rw [HR.out]; exact hrR)).length := by rw [HX.out.2.2.1]; exact hkn
          obtain ⟨a1, rfl, _, cx⟩ := (HX.out.2.2.2.1.below hb4).at_ hkr
          have hIx := HX.out.2.2.2.2 _ (List.getElem_mem hkr)
          obtain ⟨y, hy⟩ : ∃ y, y = (rows[r]'(by rw [HR.out]; exact hrR))[k] := ⟨_, rfl⟩
          have hge : wgE rows wt k r = wt r * el p y := by
            have e : rows.getD r [] = rows[r]'(by rw [HR.out]; exact hrR) := by rw [List.getD_eq_getElem?_getD, List.getElem?_eq_getElem (by rw [HR.out]; exact hrR)]; rfl
            rw [wgE, e, List.getD_eq_getElem?_getD, List.getElem?_eq_getElem hkr, Option.getD_some, hy]
          rw [← hy] at cx hIx
          have hlen : (wgL rows wt n1 r k).length = n1 := wgL_len rows wt n1 r k
          obtain ⟨O, hO⟩ : ∃ O, O = co (wgL rows wt n1 r k) k := ⟨_, rfl⟩
          have hfk : (fvs (wgL rows wt n1 r k))[k]'(by simp only [fvs, List.length_map]; rw [hlen]; exact hkn) = fv O := by
            rw [hO]
            simp [fvs, co, List.getElem?_eq_getElem (show k < (wgL rows wt n1 r k).length by rw [hlen]; exact hkn)]
          have cO : w4.cell? ⟨g, k, none⟩ = some (vi (fv O)) := by rw [hB4.cell k, visA_get _ _ (by simp only [fvs, List.length_map]; rw [hlen]; exact hkn), hfk]
          have hset := wgL_set rows wt n1 r k hkn
          rw [← hO, hge] at hset
          have hvs : (visA (fvs (wgL rows wt n1 r k))).setIfInBounds k (vi (fv (O + wt r * el p y))) = visA (fvs (wgL rows wt n1 r (k + 1))) := by
            rw [visA_set, ← hset]
            simp [fvs, List.map_set]
          have HVS := Lib.hid hvs
          have HB4 := Lib.hid (And.intro hB4 hb4)
          have ea := addZ g k
          have i3 : (0 : Int) ≤ (k : Int) := by omega
          have i4 : (k : Int) < (n1 : Int) := by omega
          have HCB := Lib.hid ((hb4.cell (block_lt_of_cell HF.out.c0)).trans HF.out.c0)
          clear hge hlen hO hfk hset hvs hy hB4 hb4
          go_upto_region 9 with (fail)
          refine wp_region_M (C := fun W => W.cell? ⟨g, k, none⟩ = some (vi (fv O))) 13 (by kernel_rfl) ?_
          have xx : w4.drew.cell? ⟨g, k, none⟩ = some (vi (fv O)) := cO
          refine wpAnyM_takeT (i := 0) rfl rfl (by kernel_rfl) (by kernel_rfl) (by kernel_rfl) (fun _ _ _ h => h) (by decide) (Or.inl ⟨by rfl, by (intro w hSw; go_simp; try with_reducible rfl)⟩) (by first | exact fun _ => by assumption | exact fun h => absurd h (by decide)) ?_
          (try simp only [Act.put, List.setIfInBounds_toArray, List.set_cons_zero, List.set_cons_succ])
          refine wpAnyM_takeT (i := 1) rfl rfl (by kernel_rfl) (by kernel_rfl) (by kernel_rfl) (fun _ _ _ h => h) (by decide) (Or.inl ⟨by rfl, by (intro w hSw; go_simp; try with_reducible rfl)⟩) (by first | exact fun _ => by assumption | exact fun h => absurd h (by decide)) ?_
          (try simp only [Act.put, List.setIfInBounds_toArray, List.set_cons_zero, List.set_cons_succ])
          refine wpAnyM_takeT (i := 2) rfl rfl (by kernel_rfl) (by kernel_rfl) (by kernel_rfl) (fun _ _ _ h => h) (by decide) (Or.inl ⟨by rfl, by (intro w hSw; go_simp; try with_reducible rfl)⟩) (by first | exact fun _ => by assumption | exact fun h => absurd h (by decide)) ?_
          (try simp only [Act.put, List.setIfInBounds_toArray, List.set_cons_zero, List.set_cons_succ])
          refine wpAnyM_takeT (i := 3) rfl rfl (by kernel_rfl) (by kernel_rfl) (by kernel_rfl) (fun _ _ _ h => h) (by decide) (Or.inl ⟨by rfl, by (intro w hSw; go_simp; try with_reducible rfl)⟩) (by first | exact fun _ => by assumption | exact fun h => absurd h (by decide)) ?_
          (try simp only [Act.put, List.setIfInBounds_toArray, List.set_cons_zero, List.set_cons_succ])
          refine wpAnyM_takeT (i := 4) rfl rfl (by kernel_rfl) (by kernel_rfl) (by kernel_rfl) (fun _ _ _ h => h) (by decide) (Or.inl ⟨by rfl, by (intro w hSw; go_simp; try with_reducible rfl)⟩) (by first | exact fun _ => by assumption | exact fun h => absurd h (by decide)) ?_
          (try simp only [Act.put, List.setIfInBounds_toArray, List.set_cons_zero, List.set_cons_succ])
          refine wpAnyM_takeT (i := 5) rfl rfl (by kernel_rfl) (by kernel_rfl) (by kernel_rfl) (fun _ _ _ h => h) (by decide) (Or.inl ⟨by rfl, by (intro w hSw; go_simp; try with_reducible rfl)⟩) (by first | exact fun _ => by assumption | exact fun h => absurd h (by decide)) ?_
          (try simp only [Act.put, List.setIfInBounds_toArray, List.set_cons_zero, List.set_cons_succ])
          refine wpAnyM_take (i := 6) rfl rfl (by kernel_rfl) (by kernel_rfl) (by kernel_rfl) (fun _ _ _ h => h) (by decide) (by kernel_rfl) (by kernel_rfl) (Or.inl ⟨by rfl, by (intro w hSw; (try dsimp only at hSw); go_simp; try with_reducible rfl)⟩) (by assumption) ?_
          (try simp only [Act.put, List.setIfInBounds_toArray, List.set_cons_zero, List.set_cons_succ])
          refine wpAnyM_takeT (i := 7) rfl rfl (by kernel_rfl) (by kernel_rfl) (by kernel_rfl) (fun _ _ _ h => h) (by decide) (Or.inl ⟨by rfl, by (intro w hSw; go_simp; try with_reducible rfl)⟩) (by first | exact fun _ => by assumption | exact fun h => absurd h (by decide)) ?_
          (try simp only [Act.put, List.setIfInBounds_toArray, List.set_cons_zero, List.set_cons_succ])
          refine wpAnyM_takeT (i := 8) rfl rfl (by kernel_rfl) (by kernel_rfl) (by kernel_rfl) (fun _ _ _ h => h) (by decide) (Or.inl ⟨by rfl, by (intro w hSw; go_simp; try with_reducible rfl)⟩) (by first | exact fun _ => by assumption | exact fun h => absurd h (by decide)) ?_
          (try simp only [Act.put, List.setIfInBounds_toArray, List.set_cons_zero, List.set_cons_succ])
          refine wpAnyM_takeT (i := 9) rfl rfl (by kernel_rfl) (by kernel_rfl) (by kernel_rfl) (fun _ _ _ h => h) (by decide) (Or.inl ⟨by rfl, by (intro w hSw; go_simp; try with_reducible rfl)⟩) (by first | exact fun _ => by assumption | exact fun h => absurd h (by decide)) ?_
          (try simp only [Act.put, List.setIfInBounds_toArray, List.set_cons_zero, List.set_cons_succ])
          refine wpAnyM_ready (rs := [10]) (by kernel_rfl) (by simp) ?_
          refine AllReadyM.cons rfl (fun K hK => ?_) AllReadyM.nil
          go_simp
          refine (mul_any p hp2 b (fv (wt r)) y (i64_fv _ hp2) hIx w4.drew HCB.out).mono ?_
          simp only [el_fv]
          rintro _ w5 ⟨rfl, k5, h5⟩
          have x5 : w5.cell? ⟨g, k, none⟩ = some (vi (fv O)) := by rw [h5]; exact cO
          have b5 : Blk w5 g 3 (visA (fvs (wgL rows wt n1 r k))) := by rw [h5]; exact HB4.out.1.drew.drewN _
          have e5 : Below w4.heap.size w4 w5 := by rw [h5]; exact below_drewN (below_drewN (Below.refl _ _) 1) _
          have hc5 : w5.cell? ⟨b, 0, none⟩ = some (vi p) := by rw [h5]; exact HCB.out
          clear h5 xx
          refine hK.out _ _ (fun _ => x5) ?_
          clear hK K
          (try simp only [Act.put, List.setIfInBounds_toArray, List.set_cons_zero, List.set_cons_succ])
          refine wpAnyM_ready (rs := [11]) (by kernel_rfl) (by simp) ?_
          refine AllReadyM.cons rfl (fun K hK => ?_) AllReadyM.nil
          go_simp
          refine (add_any p hp2 b _ _ (i64_fv _ hp2) (i64_fv _ hp2) w5 hc5).mono ?_
          simp only [el_fv]
          rintro _ w6 ⟨rfl, k6, h6⟩
          have x6 : w6.cell? ⟨g, k, none⟩ = some (vi (fv O)) := by rw [h6]; exact x5
          have b6 : Blk w6 g 3 (visA (fvs (wgL rows wt n1 r k))) := by rw [h6]; exact b5.drewN _
          have e6 : Below w4.heap.size w4 w6 := by rw [h6]; exact below_drewN e5 _
          have z6 := b6.frozen k
          have HB6 := Lib.hid (And.intro b6 (HB4.out.2.trans (e6.mono HB4.out.2.size)))
          clear h6 x5 b5 e5 hc5 b6 e6
          refine hK.out _ _ (fun _ => x6) ?_
          clear hK K
          (try simp only [Act.put, List.setIfInBounds_toArray, List.set_cons_zero, List.set_cons_succ])
          refine wpAnyM_takeT (i := 12) rfl rfl (by kernel_rfl) (by kernel_rfl) (by kernel_rfl) (fun _ _ _ h => h) (by decide) (Or.inl ⟨by rfl, by (intro w hSw; go_simp; try with_reducible rfl)⟩) (by first | exact fun _ => by assumption | exact fun h => absurd h (by decide)) ?_
          (try simp only [Act.put, List.setIfInBounds_toArray, List.set_cons_zero, List.set_cons_succ])
          refine wpAnyM_ready (rs := [13]) (by kernel_rfl) (by simp) ?_
          refine AllReadyM.cons rfl (fun K hK => ?_) AllReadyM.nil
          go_simp
          refine hK.out _ _ (fun h => absurd h (by decide)) ?_
          clear hK K
          (try simp only [Act.put, List.setIfInBounds_toArray, List.set_cons_zero, List.set_cons_succ])
          refine wpAnyM_done (by kernel_rfl) ?_ _
          have hB7 := HB6.out.1.set_ k (vi (fv (O + wt r * el p y)))
          rw [HVS.out] at hB7
          have hb7 := HB6.out.2.grown (blk_grown (w := w6) (g := g) (i := k) (u := vi (fv (O + wt r * el p y)))) HB6.out.2.size (fun j hj => by injection hj with hj; have := HG.out; omega)
          have H7 := Lib.hid (And.intro hB7 hb7)
          clear hB7 hb7 x6 z6 cO cx
          go_wp2
          go_roundw
          case rel => exact ⟨k + 1, by omega, by go_num, H7.out.1, H7.out.2⟩
          case measure => simp only [intOf, Int.toNat_natCast]; omega
        · obtain rfl : k = n1 := by omega
          rw [wgL_next] at hB4
          have HB4 := Lib.hid (And.intro hB4 hb4)
          clear hB4 hb4
          go_wp2
          go_roundw
          case rel => exact ⟨r + 1, by omega, by go_num, HB4.out.1, HB4.out.2⟩
          case measure => simp only [intOf, Int.toNat_natCast]; omega
    · obtain rfl : r = R := by omega
      have HB2 := Lib.hid (And.intro hB hb)
      clear hB hb
      go_wp2
      go_ret
      exact ⟨_, rfl, visA_own HB2.out.1 (by rw [HG.out]; exact Nat.le_refl _) (by simp only [fvs, List.length_map]; exact wgL_len _ _ _ _ _) (by simp only [maxLen]; omega), HB2.out.2⟩
end Go.Proofs.YteceghbjjnknbaaGreat

namespace Go.Proofs.YteceghbjjnknbaaGreat
open Go.RowKit Zp
def ColsIs (n : Nat) (ls : List (List Int)) (w : World) (e : Ending) (w' : World) : Prop := ∃ g : Nat, e = .returned (.slice (some ⟨g, 0, none⟩) n n) ∧ w.heap.size ≤ g ∧ (∀ W', Safe w' W' → TB W' (some ⟨g, 0, none⟩) ls) ∧ Below w.heap.size w w'
set_option maxRecDepth 100000 in
set_option maxHeartbeats 4000000 in
theorem columns_any (p S b x Dd v nd : Nat) [NeZero p] (s0 : Fin p) (hv : v ≤ 12) (T : Nat → Fin p) (A : Option Addr) (R cA : Nat) (hR : R = 2 ^ (v / 2)) (w : World) (hD : Dom w S Dd b p nd s0) (hX : ShapeAt w x b Dd v) (hT : TB w A (rowsP T (v - v / 2) R)) :
    Calls Tryz.prog 33 #[.pointer (some ⟨x, 0, none⟩), .slice A R cA] w (ColsIs nd (pcols p T (v / 2) (v - v / 2) nd s0 (rootI p nd)) w) := by
  have hp2 := hD.fld.max
  have hnp := hD.size.pos
  have hn2 := hD.size.le
  obtain ⟨b2, hb2⟩ : ∃ b2, b2 = v - v / 2 := ⟨_, rfl⟩
  unfold ShapeAt at hX
  rw [← hb2] at hX hT ⊢
  have hb6 : b2 ≤ 12 := by omega
  obtain ⟨wd, hwd⟩ : ∃ wd, wd = 2 ^ b2 := ⟨_, rfl⟩
  have hw2 : wd ≤ 4096 := by rw [hwd]; exact Nat.pow_le_pow_right (n := 2) (by omega) hb6
  have hR4 : R ≤ 4096 := by rw [hR]; exact Nat.pow_le_pow_right (n := 2) (by omega) (show v / 2 ≤ 12 by omega)
  obtain ⟨C, hC⟩ : ∃ C : Nat → List Int, C = pcol p T (v / 2) b2 s0 (rootI p nd) := ⟨_, rfl⟩
  have hCl : ∀ k, (C k).length = R := fun k => by rw [hC, pcol_length, hR]
  have hCat : ∀ k r (hr : r < (C k).length), (C k)[r] = fv (ev (prow p T b2 r) (s0 * pw (rootI p nd) k)) := fun k r hr => by
    subst hC
    exact pcol_at T b2 r (v / 2) nd s0 (rootI p nd) k (by rw [← hR, ← hCl k]; exact hr)
  have hpc : pcols p T (v / 2) b2 nd s0 (rootI p nd) = colT C nd R 0 := by
    rw [colT_done C nd (fun k _ => hCl k), hC]; rfl
  rw [hpc]
  have hCi : ∀ l ∈ colT C nd R 0, ∀ y ∈ l, I64 y := fun l hl y hy => by
    rw [colT_done C nd (fun k _ => hCl k)] at hl
    obtain ⟨k, _, rfl⟩ := List.mem_map.1 hl
    obtain ⟨r, hr, rfl⟩ := List.mem_iff_getElem.1 hy
    rw [hCat]
    exact i64_fv _ hp2
  have hw : ∀ l ∈ rowsP T b2 R, l.length = wd := fun l hl => by rw [hwd]; exact rowsP_width T b2 R l hl
  have hrat : ∀ i (h : i < R), (rowsP T b2 R)[i]'(by rw [rowsP_len]; exact h) = fvs (prow p T b2 i) := fun i h => rowsP_at T b2 R h
  have hrl := rowsP_len T b2 R
  obtain ⟨rows, hrows⟩ : ∃ rows, rows = rowsP T b2 R := ⟨_, rfl⟩
  rw [← hrows] at hT hw hrl
  have hrat' : ∀ i (h : i < rows.length), rows[i] = fvs (prow p T b2 i) := fun i h => by subst hrows; exact hrat i (by rw [← hrl]; exact h)
  have hx1 := (hX.cell 1).trans (show _ = some (.pointer (some ⟨Dd, 0, none⟩)) from rfl)
  have hd1 := hD.c1
  have hmk := make_nilC nd (by omega) w
  obtain ⟨w1, hw1⟩ : ∃ w1, w1 = w.alloc (.cells (nilC nd) 25) := ⟨_, rfl⟩
  have hb1 : Below w.heap.size w w1 := by rw [hw1]; exact (Below.refl _ _).alloc (Nat.le_refl _) _
  obtain ⟨g, hg⟩ : ∃ g, g = w.heap.size := ⟨_, rfl⟩
  have hC1 : ColsAt w1 w.heap.size g 0 (List.replicate nd (.slice none 0 0)) (colT C nd 0 0) := by
    rw [hw1, hg, colT_zero]
    exact ColsAt.made w w.heap.size nd 0 (Nat.le_refl _)
  have HSZ := Lib.hid (fun W hc => size_any Dd nd W hc)
  have HT := Lib.hid hT
  have HWD := Lib.hid hw
  have HRL := Lib.hid hrl
  have HRAT := Lib.hid hrat'
  have HCL := Lib.hid hCl
  have HCAT := Lib.hid hCat
  have HCI := Lib.hid hCi
  have HC1 := Lib.hid (And.intro hC1 hb1)
  have HW1 := Lib.hid hw1
  have HG := Lib.hid hg
  have HD := Lib.hid hD
  have HX := Lib.hid hX
  clear hT hw hrl hrat hrat' hCl hCat hCi hC1 hb1 hw1 hg hD hX hrows hpc hC hwd hb2 hR
  go_enter Tryz.func33, Tryz.ntmps33
  go_wp2_with fail
  refine (HSZ.out _ hd1).mono ?_
  rintro _ _ ⟨rfl, rfl⟩
  go_upto_region 2 with (fail)
  rw [← HW1.out, ← HG.out]
  go_wp2
  go_loopw [18] (fun i wr => ∃ r : Nat, r ≤ R ∧ i = vi r ∧ Below w.heap.size w wr ∧ ∃ F us, ColsAt wr w.heap.size g F us (colT C nd r 0)) (fun i _ => R - (intOf i).toNat)
  case atStart => exact ⟨0, Nat.zero_le _, rfl, HC1.out.2, 0, _, HC1.out.1⟩
  case round =>
    rename World => w2
    obtain ⟨r, hr, rfl, hb, F, us, hC2⟩ := hrel
    by_cases hrR : r < R
    · obtain ⟨ad', A1, n1, c1, e', ha1, hc1, hl1, hn1, hs1, hi1⟩ := HT.out r (by rw [HRL.out]; exact hrR)
      have hc2 := (hb.cell ha1).trans hc1
      subst e'
      have hn1e : n1 = wd := by rw [← hl1]; exact HWD.out _ (List.getElem_mem _)
      subst hn1e
      have i1 : (0 : Int) ≤ (r : Int) := by omega
      have i2 : (r : Int) < (R : Int) := by omega
      have hre := HRAT.out r (by rw [HRL.out]; exact hrR)
      have hV := values_nW p S Dd b nd s0 A1 n1 c1 _ hl1 hi1 (by omega) w2 (HD.out.below hb HD.out.le) (hs1.below hb)
      rw [hre, els_fvs] at hV
      have HV := Lib.hid hV
      have HC2 := Lib.hid (And.intro hC2 hb)
      have x1 := (hb.cell (block_lt_of_cell hx1)).trans hx1
      clear hV hC2 hb hl1 hs1 hi1 ha1 hre
      go_wp2_with fail
      refine HV.out.mono ?_
      rintro _ w3 ⟨A2, c2, hl2, rfl, hc2', hm2, hs2, hb2, hnw2⟩
      obtain ⟨ad2, rfl, had2, -⟩ := hs2.2 (by rw [hl2]; exact hnp)
      have hF := hnw2 ad2 rfl
      have hC3 := HC2.out.1.clear_ hb2 hF
      have hgF : ad2.block ≠ g := by
        have := HC2.out.1.blk.lt
        omega
      have hb3 := HC2.out.2.trans (hb2.mono HC2.out.2.size)
      have HC3 := Lib.hid (And.intro hC3 (And.intro hs2 hb3))
      have HL2 := Lib.hid hl2
      have HGF := Lib.hid hgF
      have HA2 := Lib.hid had2
      clear hC3 hs2 hb3 hl2 hb2 hnw2 hF hgF had2 hm2 hc2' x1 hc2
      go_wp2
      go_loopw [29] (fun i wr => ∃ k : Nat, k ≤ nd ∧ i = vi k ∧ Below w.heap.size w wr ∧ w3.heap.size ≤ wr.heap.size ∧ SL wr (some ad2) (fvs (valL s0 (rootI p nd) nd (prow p T b2 r))) ∧ ∃ us, ColsAt wr w.heap.size g ad2.block us (colT C nd r k)) (fun i _ => nd - (intOf i).toNat)
      case atStart => exact ⟨0, Nat.zero_le _, rfl, HC3.out.2.2, Nat.le_refl _, HC3.out.2.1, us, HC3.out.1⟩
      case round =>
        rename World => w4
        obtain ⟨k, hk, rfl, hb4, hsz4, hs4, us4, hC4⟩ := hrel
        by_cases hkn : k < nd
        · have hku : k < us4.length := by rw [hC4.rows.1, colT_len]; exact hkn
          have hkl : k < (colT C nd r k).length := by rw [colT_len]; exact hkn
          have hkv : k < (fvs (valL s0 (rootI p nd) nd (prow p T b2 r))).length := by rw [HL2.out]; exact hkn
          obtain ⟨a1, e1, _, cx⟩ := hs4.at_ hkv
          injection e1 with e1
          subst e1
          obtain ⟨X, hXe⟩ : ∃ X, X = ev (prow p T b2 r) (s0 * pw (rootI p nd) k) := ⟨_, rfl⟩
          have hxv : (fvs (valL s0 (rootI p nd) nd (prow p T b2 r)))[k] = fv X := by
            have hkv' : k < (valL s0 (rootI p nd) nd (prow p T b2 r)).length := by rw [valL_length]; exact hkn
            simp only [fvs, List.getElem_map]
            rw [← co_of_lt hkv', valL, co_tab, if_pos hkn, hXe]
          rw [hxv] at cx
          have hset := colT_set C nd (r := r) (j := k) hkn (by rw [HCL.out]; exact hrR)
          rw [HCAT.out, ← hXe] at hset
          have ho := hC4.rows.2 k hku hkl
          have cU := hC4.cell hku
          have hGR := fun v' w' (h : Grew w4 w' w.heap.size us4[k] v' ((colT C nd r k)[k] ++ [fv X])) => hC4.grow hku hkl (show ad2.block < w4.heap.size from Nat.lt_of_lt_of_le HA2.out hsz4) h
          rw [hset] at hGR
          have hSLK := fun v' w' (h : Grew w4 w' w.heap.size us4[k] v' ((colT C nd r k)[k] ++ [fv X])) => hC4.sl hku hkl h (show SL w4 (some ad2) _ from hs4) (fun ad e => by injection e with e; rw [e]) HGF.out
          have hLOW := fun v' w' (h : Grew w4 w' w.heap.size us4[k] v' ((colT C nd r k)[k] ++ [fv X])) => hC4.low hku hkl h hb4 (Nat.le_refl _) hb4.size (show w.heap.size ≤ g by have := HG.out; omega)
          have hFAR := fun v' w' (h : Grew w4 w' w.heap.size us4[k] v' ((colT C nd r k)[k] ++ [fv X])) => (row_far (show w4.ownsRow w.heap.size 3 1 us4[k] _ _ from ho) h.grown (show Blk w4 g 25 us4.toArray from hC4.blk) (by decide))
          have hcu : us4.toArray[k]? = some us4[k] := by simp [List.getElem?_eq_getElem hku]
          have hlnk : (colT C nd r k)[k].length < 17592186044416 := by
            rw [colT_at C nd hkn, List.length_take, HCL.out]
            omega
          obtain ⟨U, hU⟩ : ∃ U, U = us4[k] := ⟨_, rfl⟩
          obtain ⟨L, hL⟩ : ∃ L, L = (colT C nd r k)[k] := ⟨_, rfl⟩
          rw [← hU] at cU hGR hSLK hLOW hFAR ho hcu
          rw [← hL] at hGR hSLK hLOW hFAR ho hlnk
          have HGR := Lib.hid hGR
          have HSLK := Lib.hid hSLK
          have HLOW := Lib.hid hLOW
          have HFAR := Lib.hid hFAR
          have HO := Lib.hid ho
          have HLK := Lib.hid hlnk
          have HCU := Lib.hid hcu
          have HSB := Lib.hid (And.intro hb4.size hsz4)
          have ea := addZ g k
          have i3 : (0 : Int) ≤ (k : Int) := by omega
          have i4 : (k : Int) < (nd : Int) := by omega
          clear hb4 hsz4 hs4 hC4 hxv hset ho hGR hSLK hLOW hFAR hU hL hXe hlnk hku hkl hkv hcu
          go_upto_region 9 with (at_builtin; refine wpList_app1 w4 (fv X) rfl _ _ rfl w.heap.size U L rfl rfl HO.out HLK.out HSB.out.1 ?_; intro v7 w7 hg7; have z7 := (HFAR.out _ _ hg7).frozen k; have x7 := ((HFAR.out _ _ hg7).cell k).trans HCU.out; obtain ⟨A7, n7, c7, rfl, hl7, _, _, _⟩ := hg7.own.shapeN)
          have H7 := Lib.hid (And.intro (HGR.out _ _ hg7) (And.intro (HSLK.out _ _ hg7) (And.intro (HLOW.out _ _ hg7) (Nat.le_trans HSB.out.2 hg7.grown.size))))
          clear hg7 x7 z7 cU cx hl7
          go_wp2
          go_roundw
          case rel => exact ⟨k + 1, by omega, by go_num, H7.out.2.2.1, Nat.le_trans H7.out.2.2.2 (blk_grown (g := g)).size, H7.out.2.1, _, H7.out.1⟩
          case measure => simp only [intOf, Int.toNat_natCast]; omega
        · obtain rfl : k = nd := by omega
          rw [colT_next] at hC4
          have HB4 := Lib.hid (And.intro hb4 hC4)
          clear hb4 hC4 hs4 hsz4
          go_wp2
          go_roundw
          case rel => exact ⟨r + 1, by omega, by go_num, HB4.out.1, _, _, HB4.out.2⟩
          case measure => simp only [intOf, Int.toNat_natCast]; omega
    · obtain rfl : r = R := by omega
      have HB2 := Lib.hid (And.intro hb hC2)
      clear hb hC2
      go_wp2
      go_ret
      exact ⟨g, rfl, by rw [HG.out]; exact Nat.le_refl _, fun W' hs => (HB2.out.2.safe hs).tb HCI.out, HB2.out.1⟩
end Go.Proofs.YteceghbjjnknbaaGreat

namespace Go.Proofs.YteceghbjjnknbaaGreat
open Go.RowKit Zp
abbrev tabF (p : Nat) [NeZero p] (l : List Int) : Nat → Fin p := fun t => co (els p l) t
abbrev NoRoot (e : Ending) : Prop := ∃ j : Int, e = .returned (.tuple #[.slice none 0 0, .iface 71 (vi j)])
set_option maxRecDepth 100000 in
set_option maxHeartbeats 4000000 in
theorem commit_no (b Dd v nd : Nat) (hv : v ≤ 12) (hn : nd ≤ 65536) (hroom : ¬ 2 ^ (v - v / 2) ≤ nd / 2) (sp : Value) (A : Option Addr) (m cA : Nat) (hm : m = 2 ^ v) (w : World) (c0 : w.cell? ⟨Dd, 0, none⟩ = some (.pointer (some ⟨b, 0, none⟩))) (c1 : w.cell? ⟨Dd, 1, none⟩ = some (vi nd)) :
    Calls Tryz.prog 12 #[sp, .pointer (some ⟨Dd, 0, none⟩), .slice A m cA] w fun e w' => NoRoot e ∧ Below w.heap.size w w' := by
  have HO := Lib.hid (of_yes b Dd v nd hv hn A m cA hm w c0 c1)
  have HR := Lib.hid (show decide (2 ^ (v - v / 2) ≤ nd / 2) = false from decide_eq_false hroom)
  clear hroom c0 c1 hm
  go_enter Tryz.func12, Tryz.ntmps12
  go_wp2_with fail
  refine HO.out.mono ?_
  rintro _ w2 ⟨x, rfl, hx, hX, hb⟩
  rw [HR.out]
  have HB := Lib.hid hb
  clear hx hX hb
  go_wp2
  go_ret2
  exact ⟨⟨_, rfl⟩, HB.out⟩
set_option maxRecDepth 100000 in
set_option maxHeartbeats 4000000 in
theorem commit_yes (p S b s kk zz Dd v nd : Nat) [NeZero p] (s0 : Fin p) (oo : Nat → Nat → Fin p) (hv : v ≤ 12) (hroom : 2 ^ (v - v / 2) ≤ nd / 2) (A : Option Addr) (n cA : Nat) (l : List Int) (hl : l.length = n) (hI : ∀ x ∈ l, I64 x) (hne : n = 2 ^ v) (hnc : n ≤ cA) (hcA : cA ≤ 9223372036854775807) (w : World) (hD : Dom w S Dd b p nd s0) (G : Spg w s b kk zz oo) (hs : SL w A l) :
    Calls Tryz.prog 12 #[.pointer (some ⟨s, 0, none⟩), .pointer (some ⟨Dd, 0, none⟩), .slice A n cA] w (TRootIs (proot p kk (tabF p l) (v / 2) (v - v / 2) nd s0 (rootI p nd)) w) := by
  have hn1 := hD.size.pos
  have hn2 := hD.size.le
  have HO := Lib.hid (of_yes b Dd v nd hv (by omega) A n cA hne w hD.c0 hD.c1)
  have HR := Lib.hid (show decide (2 ^ (v - v / 2) ≤ nd / 2) = true from decide_eq_true hroom)
  have hc2 : 2 ^ (v / 2) ≤ 4096 := Nat.pow_le_pow_right (n := 2) (by omega) (show v / 2 ≤ 12 by omega)
  have HRW := Lib.hid (fun (x : Nat) (W : World) F hX hs => rows_any p S b x Dd v hv A n cA l hl hI hne hnc hcA W F hX hs)
  have HCL := Lib.hid (fun (x : Nat) A' R' cA' (W : World) hR hD hX hT => columns_any p S b x Dd v nd s0 hv (tabF p l) A' R' cA' hR W hD hX hT)
  have HTR := Lib.hid (fun A' c' (W : World) F G hT => tRoot_yes p S b s kk zz oo A' nd c' (pcols p (tabF p l) (v / 2) (v - v / 2) nd s0 (rootI p nd)) pcols_length hn1 hn2 (fun q hq => by
    obtain ⟨j, _, rfl⟩ := List.mem_map.1 hq
    rw [pcol_length]
    omega) W F G hT)
  have HD := Lib.hid hD
  have HG := Lib.hid G
  have HS := Lib.hid hs
  clear hroom hD G hs hne hl hI
  go_enter Tryz.func12, Tryz.ntmps12
  go_wp2_with fail
  refine HO.out.mono ?_
  rintro _ w2 ⟨x, rfl, hx, hX, hb⟩
  rw [HR.out]
  have HX := Lib.hid hX
  have HB := Lib.hid hb
  clear hx hX hb
  go_wp2_with fail
  refine (HRW.out x w2 (HD.out.fld.below HB.out HD.out.fld.le) HX.out (HS.out.below HB.out)).mono ?_
  rintro _ w3 ⟨v3, us, rfl, ho3, hr3, hb3⟩
  obtain ⟨A3, n3, c3, rfl, hn3, hnc3⟩ := ownR_shape ho3
  have hn3' : n3 = 2 ^ (v / 2) := by rw [← hn3, hr3.1, rowsP_len]
  have hT3 := tb_own ho3 hr3 (rowsP_i64 _ _ _ HD.out.fld.max)
  have hb23 := HB.out.trans (hb3.mono HB.out.size)
  have hX3 : ShapeAt w3 x b Dd v := Blk.below HX.out hb3 (Blk.lt HX.out)
  rw [← hn3'] at hT3
  have HC3 := Lib.hid (HCL.out x A3 n3 c3 w3 hn3' (HD.out.below hb23 HD.out.le) hX3 hT3)
  have HB3 := Lib.hid hb23
  clear ho3 hr3 hb3 hn3 hnc3 hn3' hT3 hb23 hX3
  go_wp2_with fail
  refine HC3.out.mono ?_
  rintro _ w4 ⟨g, rfl, hg, hT4, hb4⟩
  have hb24 := HB3.out.trans (hb4.mono HB3.out.size)
  have HT4 := Lib.hid (HTR.out _ nd w4 (HD.out.fld.below hb24 HD.out.fld.le) (HG.out.below hb24 (block_lt_of_cell HG.out.c0)) (hT4 w4 (Safe.refl _)))
  have HB4 := Lib.hid hb24
  clear hg hT4 hb4 hb24
  go_wp2_with fail
  refine HT4.out.mono ?_
  rintro _ w5 ⟨g5, rfl, h1, h2, h3, h4, h5, h6⟩
  have HF := Lib.hid (show TRootIs (proot p kk (tabF p l) (v / 2) (v - v / 2) nd s0 (rootI p nd)) w (.returned (.tuple #[.slice (some ⟨g5, 0, none⟩) 4 4, .nilIface])) w5 from ⟨g5, rfl, h1, h2, h3, h4, Nat.le_trans HB4.out.size h5, HB4.out.trans (h6.mono HB4.out.size)⟩)
  clear h1 h2 h3 h4 h5 h6
  go_wp2
  go_ret2
  exact HF.out
end Go.Proofs.YteceghbjjnknbaaGreat

namespace Go.Proofs.YteceghbjjnknbaaGreat
open Go.RowKit Zp
def DrawnOnce {p : Nat} [NeZero p] (k c s : Nat) (D : List Int) (N : Int) (n : Nat) (w : World) (e : Ending) (w' : World) : Prop :=
  ∃ (A : Option Addr) (m cA : Nat), e = .returned (.slice A m cA) ∧ Own w' w.heap.size (.slice A m cA) (onceL (placesL p k D N n)) ∧ Chn w' c s (iterP p k D n) ∧ w.grownBy w' (some c)
def ListNe (w : World) (c : Nat) (v : Value) : Prop := ∀ g, v.ownBlock = some g → DigNe w c g
theorem Chn.turned {w w' : World} {c s base : Nat} {D : List Int} {v : Value} {xs : List Int} (h : Chn w c s D) (ho : Own w base v xs) (hc : c < base) (hn : ListNe w c v) (hg : w.grownBy w' v.ownBlock) : Chn w' c s D ∧ ∃ g cap : Nat, w'.cell? ⟨c, 1, none⟩ = some (.slice (some ⟨g, 0, none⟩) 4 cap) ∧ w.cell? ⟨c, 1, none⟩ = some (.slice (some ⟨g, 0, none⟩) 4 cap) := by
  obtain ⟨g, cap, t, cs, h1, h2, h3, h4, h5, h6, h7, h8⟩ := id h
  have e1 : w.cell? ⟨c, 1, none⟩ = some (.slice (some ⟨g, 0, none⟩) 4 cap) := (Blk.cell h1 1).trans rfl
  cases hv : v.ownBlock with
  | none =>
    rw [hv] at hg
    have hb : Below w.heap.size w w' := ⟨hg.os, hg.tape, hg.output, hg.size, fun i hi => hg.block i hi (by intro e; cases e)⟩
    exact ⟨h.below hb, g, cap, (hb.cell (block_lt_of_cell e1)).trans e1, e1⟩
  | some x =>
    rw [hv] at hg
    have hx := (ho.lt x hv).1
    have h1' := Blk.grown h1 hg (by intro e; injection e with e; omega)
    exact ⟨h.keepX hg (by omega) (hn x hv), g, cap, (Blk.cell h1' 1).trans rfl, e1⟩
set_option maxRecDepth 100000 in
set_option maxHeartbeats 4000000 in
theorem pdrawn_any (p S b s k z c : Nat) [NeZero p] (oo : Nat → Nat → Fin p) (D : List Int) (N : Int) (hN1 : 1 ≤ N) (hN2 : N ≤ 65536) (n : Nat) (hn1 : 1 ≤ n) (hn2 : n ≤ 64) (w : World) (hS : S ≤ c) (hsc : s < c) (HK : ∀ W, w.grownBy W (some c) → Fld W S b p ∧ Spg W s b k z oo) (hC : Chn w c s D) :
    Calls Tryz.prog 44 #[.pointer (some ⟨c, 0, none⟩), vi N, vi n] w (DrawnOnce (p := p) k c s D N n w) := by
  have hc := hC.lt
  have HKK := Lib.hid HK
  have HC := Lib.hid hC
  clear HK hC
  go_enter Tryz.func44, Tryz.ntmps44
  go_wp2
  go_loopw [7, 9] (fun v i wr => ∃ t : Nat, t ≤ n ∧ i = vi t ∧ Own wr w.heap.size v (placesL p k D N t) ∧ ListNe wr c v ∧ Chn wr c s (iterP p k D t) ∧ w.grownBy wr (some c)) (fun _ i _ => n - (intOf i).toNat)
  case atStart => exact ⟨0, Nat.zero_le _, rfl, World.ownsRow_nil _ _ _ _, (fun g hg => by cases hg), HC.out, ⟨rfl, rfl, rfl, Nat.le_refl _, fun _ _ _ => rfl⟩⟩
  case round =>
    rename World => w1
    obtain ⟨t, ht, rfl, ho, hne, hC1, hg1⟩ := hrel
    obtain ⟨A1, n1, c1, rfl, hl1, hc1, _, _⟩ := ho.shapeN
    by_cases htn : t < n
    · have HPL := Lib.hid (chplace_new p S b s k z c oo (iterP p k D t) N hN1 hN2 w1 (HKK.out w1 hg1).1 (HKK.out w1 hg1).2 hS hsc hC1)
      have HO := Lib.hid ho
      have HG1 := Lib.hid hg1
      have HSAFE := Lib.hid (fun (W : World) (hg : w1.grownBy W (some c)) => (show Safe w1 W by obtain ⟨cv, hcv⟩ := hC1.obj; exact Safe.one hg hcv ⟨by decide, by decide, by decide⟩))
      have HLN := Lib.hid (show (placesL p k D N t).length < 17592186044416 by rw [placesL_len]; omega)
      have k1 : (t : Int) < (n : Int) := by omega
      have HPS := Lib.hid (placesL_succ p k D N t)
      clear ho hne hC1 hg1 hl1
      go_wp2_with fail
      refine HPL.out.mono ?_
      rintro _ w4 ⟨rfl, hC4, hg4, hd4⟩
      have ho4 := HO.out.safe (HSAFE.out w4 hg4)
      have hgw4 := grownBy_trans HG1.out hg4
      obtain ⟨pv, hpv⟩ : ∃ pv, pv = placeV p (drawnL p k (iterP p k D t)) N := ⟨_, rfl⟩
      have HX4 := Lib.hid (And.intro ho4 (And.intro (show Chn w4 c s (iterP p k D (t + 1)) from hC4) (And.intro hd4 hgw4)))
      have HB := Lib.hid (show ∀ q, (Value.slice A1 n1 c1).ownBlock = some q → q < w1.heap.size from fun q hq => (HO.out.lt q hq).2)
      have HPV := Lib.hid (show placesL p k D N (t + 1) = placesL p k D N t ++ [pv] by rw [HPS.out, hpv]; rfl)
      rw [← hpv]
      clear ho4 hC4 hg4 hd4 hgw4 hpv
      go_upto_region 5 with (at_builtin; refine wpList_app1 w4 pv rfl _ _ rfl w.heap.size (.slice A1 n1 c1) (placesL p k D N t) rfl rfl HX4.out.1 HLN.out HX4.out.2.2.2.size ?_; intro v5 w5 hg5; obtain ⟨A5, n5, c5, rfl, hl5, _, _, _⟩ := hg5.own.shapeN)
      have ho5 := hg5.own
      rw [← HPV.out] at ho5
      have hlne : ListNe w4 c (.slice A1 n1 c1) := fun g hg => HX4.out.2.2.1.ne (HB.out g hg)
      obtain ⟨hC5, g, cap, e1, e2⟩ := HX4.out.2.1.turned HX4.out.1 hc hlne hg5.grown
      have hne5 : ListNe w5 c (.slice A5 n5 c5) := fun q hq => by
        refine ⟨g, cap, e1, fun e => ?_⟩
        subst e
        rcases hg5.at_ with h | ⟨j, h, hj⟩
        · rw [h] at hq
          obtain ⟨g', cap', f1, f2⟩ := hlne g hq
          rw [e2] at f1
          injection f1 with f1
          injection f1 with f1 _ _
          injection f1 with f1
          injection f1 with f1 _ _
          exact f2 f1.symm
        · rw [h] at hq
          injection hq with hq
          obtain ⟨g', cap', t', cs', q1, q2, _⟩ := HX4.out.2.1
          have f1 : w4.cell? ⟨c, 1, none⟩ = some (.slice (some ⟨g', 0, none⟩) 4 cap') := (Blk.cell q1 1).trans rfl
          rw [e2] at f1
          injection f1 with f1
          injection f1 with f1 _ _
          injection f1 with f1
          injection f1 with f1 _ _
          have := q2.lt
          omega
      have hgw5 : w.grownBy w5 (some c) := grownBy_new HX4.out.2.2.2 hg5.grown fun q hq => (HX4.out.1.lt q hq).1
      have H5 := Lib.hid (And.intro ho5 (And.intro hne5 (And.intro hC5 hgw5)))
      clear ho5 hlne hC5 e1 e2 hne5 hgw5 hg5 hl5
      go_wp2
      go_roundw
      case rel => exact ⟨t + 1, by omega, by go_num, H5.out.1, H5.out.2.1, H5.out.2.2.1, H5.out.2.2.2⟩
      case measure => simp only [intOf, Int.toNat_natCast]; omega
    · obtain rfl : t = n := by omega
      have hln : n1 = t := by rw [← hl1, placesL_len]
      have HSRT := Lib.hid (sort_any ho hl1 (by omega))
      have HO := Lib.hid (And.intro ho (And.intro hne (And.intro hC1 hg1)))
      clear ho hne hC1 hg1 hl1 hln
      go_wp2_with fail
      refine HSRT.out.mono ?_
      rintro _ w2 ⟨rfl, ho2, hg2⟩
      obtain ⟨hC2, g, cap, e1, e2⟩ := HO.out.2.2.1.turned HO.out.1 hc HO.out.2.1 hg2
      have hne2 : ListNe w2 c (.slice A1 n1 c1) := fun q hq => by
        obtain ⟨g', cap', f1, f2⟩ := HO.out.2.1 q hq
        rw [e2] at f1
        injection f1 with f1
        injection f1 with f1 _ _
        injection f1 with f1
        injection f1 with f1 _ _
        exact ⟨g, cap, e1, fun e => f2 (by rw [← f1]; exact e)⟩
      have hgw2 : w.grownBy w2 (some c) := grownBy_new HO.out.2.2.2 hg2 fun q hq => (HO.out.1.lt q hq).1
      obtain ⟨A2', n2', c2', e', hl2, _, _, _⟩ := ho2.shapeN
      injection e' with q1 q2 q3
      subst q1 q2 q3
      have HCM := Lib.hid (compact_any ho2 hl2 (by
        have h := hl2
        rw [List.length_mergeSort, placesL_len] at h
        omega))
      have H2 := Lib.hid (And.intro ho2 (And.intro hne2 (And.intro hC2 hgw2)))
      clear ho2 hg2 hC2 e1 e2 hne2 hgw2 hl2
      go_wp2_with fail
      refine HCM.out.mono ?_
      rintro _ w3 ⟨rfl, ho3, hg3⟩
      have hC3 := (H2.out.2.2.1.turned H2.out.1 hc H2.out.2.1 hg3).1
      have hgw3 : w.grownBy w3 (some c) := grownBy_new H2.out.2.2.2 hg3 fun q hq => (H2.out.1.lt q hq).1
      obtain ⟨m3, hm3⟩ : ∃ m3, m3 = (Go.Lib.compact ((placesL p k D N t).mergeSort fun x y => decide (x ≤ y))).length := ⟨_, rfl⟩
      rw [← hm3] at ho3
      rw [← hm3]
      rw [compact_once] at ho3
      clear hm3
      have HF := Lib.hid (show DrawnOnce (p := p) k c s D N t w (.returned (.slice A1 m3 c1)) w3 from ⟨A1, m3, c1, rfl, ho3, hC3, hgw3⟩)
      clear ho3 hg3 hC3 hgw3
      go_wp2
      go_ret
      exact HF.out
end Go.Proofs.YteceghbjjnknbaaGreat

namespace Go.Proofs.YteceghbjjnknbaaGreat
open Go.RowKit Zp
set_option maxRecDepth 100000 in
set_option maxHeartbeats 2000000 in
theorem open2_any (p S b s k z : Nat) [NeZero p] (oo : Nat → Nat → Fin p) (A : Option Addr) (N c : Nat) (ls : List (List Int)) (hN : ls.length = N) (hN2 : N ≤ 65536) (hR : ∀ l ∈ ls, l.length * 8 + 80 ≤ 140737488355328) (ob sb rb : Nat) (ov rv : Value) (W4 : World) (hob : ob < W4.heap.size)
    (hE : ∀ W, W4.grownBy W (some ob) → Fld W S b p ∧ Spg W s b k z oo ∧ TB W A ls ∧ W.cell? ⟨sb, 0, none⟩ = some (.pointer (some ⟨s, 0, none⟩)) ∧ W.cell? ⟨rb, 0, none⟩ = some (.slice A N c))
    (pre : List (Nat × Nat)) (a m : Nat) (W : World) (hJ : NodesJ (fun g => rootD (digL p k) (rowF ls) g.1 g.2) W4 ob ov rv pre W) (hpl : pre.length ≤ a) (h1 : 1 ≤ m) (ha : a + m ≤ N) :
    Calls Tryz.prog 91 #[.agg #[vi (a : Int), vi ((a : Int) + (m : Int))], .pointer (some ⟨ob, 0, none⟩), .pointer (some ⟨sb, 0, none⟩), .pointer (some ⟨rb, 0, none⟩)] W fun e W' => (∃ r, e = .returned r) ∧ NodesJ (fun g => rootD (digL p k) (rowF ls) g.1 g.2) W4 ob ov rv (pre ++ [(a, m)]) W' ∧ KeepG W W' := by
  obtain ⟨H, hH⟩ : ∃ H : Nat × Nat → List Int, H = fun g => rootD (digL p k) (rowF ls) g.1 g.2 := ⟨_, rfl⟩
  have HRT : Hid (∀ W', Fld W' S b p → Spg W' s b k z oo → TB W' A ls → Calls Tryz.prog 81 #[.pointer (some ⟨s, 0, none⟩), .slice A N c, .agg #[vi (a : Int), vi ((a : Int) + (m : Int))]] W' (RootIs (H (a, m)) W')) := Lib.hid (fun W' F G T => by
    have h := troot_any p S b s k z oo A N c ls hN hN2 hR m a h1 ha W' F G T
    rw [hH]
    simpa [Gp] using h)
  rw [← hH] at hJ ⊢
  obtain ⟨nv, vs, hblk, hno, hus, hgr⟩ := hJ
  obtain ⟨AV, nV, cV, rfl, hnV, _⟩ := ownR_shape hno
  have HVL := Lib.hid (show vs.length < 5864062014805 by have := hus.1; rw [List.length_map] at this; omega)
  obtain ⟨W1, hW1⟩ : ∃ W1, W1 = W.alloc (.cells #[vi a, vi ((a : Int) + m)] 139) := ⟨_, rfl⟩
  have hb1 : Below W.heap.size W W1 := by rw [hW1]; exact (Below.refl _ _).alloc (Nat.le_refl _) _
  have hBg : Blk W1 W.heap.size 139 #[vi a, vi ((a : Int) + m)] := by rw [hW1]; exact Blk.new _ _ _
  have KX : Hid (∀ W', Below W1.heap.size W1 W' → (Fld W' S b p ∧ Spg W' s b k z oo ∧ TB W' A ls) ∧ Blk W' ob 51 #[ov, rv, .slice AV nV cV] ∧ OwnR W' W4.heap.size (.slice AV nV cV) vs ∧ UsAt W' vs (pre.map H) ∧ W4.grownBy W' (some ob)) := Lib.hid fun W' hb => by
    have hb' := hb1.trans (hb.mono hb1.size)
    have hg' := grownBy_trans hgr (grown_of_below hb' (some ob))
    obtain ⟨e1, e2, e3, _⟩ := hE W' hg'
    exact ⟨⟨e1, e2, e3⟩, Blk.below hblk hb' hblk.lt, OwnR.below hno hb', hus.below hb', hg'⟩
  have KS : Hid (∀ W', (W4.grownBy W' (some ob) ∧ KeepG W1 W') → W'.cell? ⟨sb, 0, none⟩ = some (.pointer (some ⟨s, 0, none⟩)) ∧ W'.cell? ⟨rb, 0, none⟩ = some (.slice A N c) ∧ W'.cell? ⟨W.heap.size, 0, none⟩ = some (vi a) ∧ W'.cell? ⟨W.heap.size, 1, none⟩ = some (vi ((a : Int) + m))) := Lib.hid fun W' hb => by
    obtain ⟨_, _, _, e4, e5⟩ := hE W' hb.1
    have hq := hb.2.2 _ _ hBg
    exact ⟨e4, e5, (hq.cell 0).trans rfl, (hq.cell 1).trans rfl⟩
  have HOB := Lib.hid hob
  have HKG := Lib.hid (KeepG.of hb1)
  have hb11 : Below W1.heap.size W1 W1.drew := below_drewN (Below.refl _ _) 1
  have kk1 : W4.grownBy W1.drew (some ob) ∧ KeepG W1 W1.drew := ⟨(KX.out _ hb11).2.2.2.2, KeepG.of hb11⟩
  have c1 := ((KX.out _ (Below.refl _ _)).2.1.cell 2).trans (show _ = some (.slice AV nV cV) from rfl)
  have c2 := ((KX.out _ hb11).2.1.cell 2).trans (show _ = some (.slice AV nV cV) from rfl)
  have HW1 := Lib.hid hW1
  clear hH hE hblk hno hus hgr hob hpl h1 ha hN hN2 hR hb1 hBg hW1 hnV
  go_enter Tryz.func91, Tryz.ntmps91
  go_wp2_with fail
  rw [← HW1.out]
  refine wp_region_held_drew (S := fun w' => w'.cell? ⟨sb, 0, none⟩ = some (.pointer (some ⟨s, 0, none⟩)) ∧ w'.cell? ⟨rb, 0, none⟩ = some (.slice A N c) ∧ w'.cell? ⟨W.heap.size, 0, none⟩ = some (vi a) ∧ w'.cell? ⟨W.heap.size, 1, none⟩ = some (vi ((a : Int) + m))) (by kernel_rfl) (KS.out _ kk1) (fun hHeld => ?_)
  refine tkH 0 ?_
  refine tkH 2 ?_
  refine tkH 3 ?_
  refine tkH 4 ?_
  refine wpAnyH_ready (rs := [1, 5]) (by kernel_rfl) (by simp) ?_
  refine AllReadyH.cons rfl (fun K hK => ?_) (AllReadyH.cons rfl (fun K hK => ?_) AllReadyH.nil)
  · go_simp
    refine hK.out _ _ (by (first | exact KS.out _ (by assumption) | (simp only [Act.put]; exact KS.out _ (by assumption)))) (fun hHeld => ?_)
    clear hK K
    (try simp only [Act.put, List.setIfInBounds_toArray, List.set_cons_zero, List.set_cons_succ])
    refine stH 5 (fun K hK => ?_)
    go_simp
    refine (HRT.out _ (KX.out _ hb11).1.1 (KX.out _ hb11).1.2.1 (KX.out _ hb11).1.2.2).mono ?_
    rintro _ w3 ⟨g3, rfl, ⟨x3, y3⟩, s3, l3, i3, n3, hb3⟩
    have hb13 : Below W1.heap.size W1 w3 := hb11.trans (hb3.mono hb11.size)
    have HX3 := Lib.hid (show _ ∧ _ ∧ _ ∧ _ ∧ W4.heap.size ≤ w3.heap.size ∧ Below W1.heap.size W1 w3 from ⟨(KX.out _ hb13).2.1, (KX.out _ hb13).2.2.1, (KX.out _ hb13).2.2.2.1, (KX.out _ hb13).2.2.2.2, (KX.out _ hb13).2.2.2.2.size, hb13⟩)
    have HG3 := Lib.hid (And.intro y3 (And.intro s3 (And.intro l3 i3)))
    have kk3 : W4.grownBy w3 (some ob) ∧ KeepG W1 w3 := ⟨(KX.out _ hb13).2.2.2.2, KeepG.of hb13⟩
    have hba := (Below.refl w3.heap.size w3).alloc (Nat.le_refl _) (.cells #[.slice (some ⟨g3, 0, none⟩) 4 4] 25)
    have kk4 : W4.grownBy (w3.alloc (.cells #[.slice (some ⟨g3, 0, none⟩) 4 4] 25)) (some ob) ∧ KeepG W1 (w3.alloc (.cells #[.slice (some ⟨g3, 0, none⟩) 4 4] 25)) := ⟨grownBy_trans kk3.1 (grown_of_below hba _), kk3.2.trans (KeepG.of hba)⟩
    have c3 := (HX3.out.1.cell 2).trans (show _ = some (.slice AV nV cV) from rfl)
    have c4 := ((Blk.alloc HX3.out.1 (.cells #[.slice (some ⟨g3, 0, none⟩) 4 4] 25)).cell 2).trans (show _ = some (.slice AV nV cV) from rfl)
    clear y3 s3 l3 i3 n3 hb3 hb13 hba
    refine hK.out _ _ (by (first | exact KS.out _ (by assumption) | (simp only [Act.put]; exact KS.out _ (by assumption)))) (fun hHeld => ?_)
    clear hK K
    (try simp only [Act.put, List.setIfInBounds_toArray, List.set_cons_zero, List.set_cons_succ])
    refine stH 6 (fun K hK => ?_)
    go_simp
    refine hK.out _ _ (by (first | exact KS.out _ (by assumption) | (simp only [Act.put]; exact KS.out _ (by assumption)))) (fun hHeld => ?_)
    clear hK K
    (try simp only [Act.put, List.setIfInBounds_toArray, List.set_cons_zero, List.set_cons_succ])
    refine wpAnyH_ready (rs := [7]) (by kernel_rfl) (by simp) ?_
    refine AllReadyH.cons rfl (fun K hK => ?_) AllReadyH.nil
    refine step_appR w3 (some ⟨g3, 0, none⟩) 4 4 (by rfl) _ _ (by rfl) W4.heap.size _ vs (by rfl) (by rfl) HX3.out.2.1 HVL.out HX3.out.2.2.2.2.1 ?_
    intro v5 w5 hg5
    obtain ⟨hq5, hj5, hk5⟩ := NodesJ.push (x := (a, m)) (H := H) HOB.out HX3.out.1 HX3.out.2.1 HX3.out.2.2.1 HX3.out.2.2.2.1 HG3.out.1 (by decide) (by decide) HG3.out.2.1 HG3.out.2.2.1 HG3.out.2.2.2 hg5
    obtain ⟨A5, n5, c5, rfl, hn5, _⟩ := ownR_shape hg5.own
    have kk5 : W4.grownBy w5 (some ob) ∧ KeepG W1 w5 := ⟨grownBy_new HX3.out.2.2.2.1 hg5.grown fun k hk => (World.ownsRow.lt HX3.out.2.1 k hk).1, (KeepG.of HX3.out.2.2.2.2.2).trans (KeepG.grew hg5 HX3.out.2.1)⟩
    have kk6 : W4.grownBy (w5.setCell ⟨ob, 2, none⟩ (.slice A5 n5 c5)) (some ob) ∧ KeepG W1 (w5.setCell ⟨ob, 2, none⟩ (.slice A5 n5 c5)) := ⟨grownBy_trans kk5.1 blk_grown, (KeepG.of HX3.out.2.2.2.2.2).trans hk5⟩
    have e2 := (hq5.cell 2).trans (show _ = some (.slice AV nV cV) from rfl)
    have z2 := hq5.frozen 2
    have HFIN := Lib.hid (And.intro hj5 (HKG.out.trans kk6.2))
    clear hj5 hk5 hq5 hg5 hn5
    refine hK.out _ _ (by (first | exact KS.out _ (by assumption) | (simp only [Act.put]; exact KS.out _ (by assumption)))) (fun hHeld => ?_)
    clear hK K
    (try simp only [Act.put, List.setIfInBounds_toArray, List.set_cons_zero, List.set_cons_succ])
    refine stH 8 (fun K hK => ?_)
    go_simp
    refine hK.out _ _ (by (first | exact KS.out _ (by assumption) | (simp only [Act.put]; exact KS.out _ (by assumption)))) (fun hHeld => ?_)
    clear hK K
    (try simp only [Act.put, List.setIfInBounds_toArray, List.set_cons_zero, List.set_cons_succ])
    refine stH 9 (fun K hK => ?_)
    go_simp
    refine hK.out _ _ (by (first | exact KS.out _ (by assumption) | (simp only [Act.put]; exact KS.out _ (by assumption)))) (fun hHeld => ?_)
    clear hK K
    (try simp only [Act.put, List.setIfInBounds_toArray, List.set_cons_zero, List.set_cons_succ])
    refine wpAnyH_done (by kernel_rfl) ?_ _
    go_wp2
    go_end0
    exact ⟨⟨_, rfl⟩, HFIN.out.1, HFIN.out.2⟩
  · go_simp
    refine (HRT.out _ (KX.out _ hb11).1.1 (KX.out _ hb11).1.2.1 (KX.out _ hb11).1.2.2).mono ?_
    rintro _ w3 ⟨g3, rfl, ⟨x3, y3⟩, s3, l3, i3, n3, hb3⟩
    have hb13 : Below W1.heap.size W1 w3 := hb11.trans (hb3.mono hb11.size)
    have HX3 := Lib.hid (show _ ∧ _ ∧ _ ∧ _ ∧ W4.heap.size ≤ w3.heap.size ∧ Below W1.heap.size W1 w3 from ⟨(KX.out _ hb13).2.1, (KX.out _ hb13).2.2.1, (KX.out _ hb13).2.2.2.1, (KX.out _ hb13).2.2.2.2, (KX.out _ hb13).2.2.2.2.size, hb13⟩)
    have HG3 := Lib.hid (And.intro y3 (And.intro s3 (And.intro l3 i3)))
    have kk3 : W4.grownBy w3 (some ob) ∧ KeepG W1 w3 := ⟨(KX.out _ hb13).2.2.2.2, KeepG.of hb13⟩
    have hba := (Below.refl w3.heap.size w3).alloc (Nat.le_refl _) (.cells #[.slice (some ⟨g3, 0, none⟩) 4 4] 25)
    have kk4 : W4.grownBy (w3.alloc (.cells #[.slice (some ⟨g3, 0, none⟩) 4 4] 25)) (some ob) ∧ KeepG W1 (w3.alloc (.cells #[.slice (some ⟨g3, 0, none⟩) 4 4] 25)) := ⟨grownBy_trans kk3.1 (grown_of_below hba _), kk3.2.trans (KeepG.of hba)⟩
    have c3 := (HX3.out.1.cell 2).trans (show _ = some (.slice AV nV cV) from rfl)
    have c4 := ((Blk.alloc HX3.out.1 (.cells #[.slice (some ⟨g3, 0, none⟩) 4 4] 25)).cell 2).trans (show _ = some (.slice AV nV cV) from rfl)
    clear y3 s3 l3 i3 n3 hb3 hb13 hba
    refine hK.out _ _ (by (first | exact KS.out _ (by assumption) | (simp only [Act.put]; exact KS.out _ (by assumption)))) (fun hHeld => ?_)
    clear hK K
    (try simp only [Act.put, List.setIfInBounds_toArray, List.set_cons_zero, List.set_cons_succ])
    refine wpAnyH_ready (rs := [1, 6]) (by kernel_rfl) (by simp) ?_
    refine AllReadyH.cons rfl (fun K hK => ?_) (AllReadyH.cons rfl (fun K hK => ?_) AllReadyH.nil)
    · go_simp
      refine hK.out _ _ (by (first | exact KS.out _ (by assumption) | (simp only [Act.put]; exact KS.out _ (by assumption)))) (fun hHeld => ?_)
      clear hK K
      (try simp only [Act.put, List.setIfInBounds_toArray, List.set_cons_zero, List.set_cons_succ])
      refine stH 6 (fun K hK => ?_)
      go_simp
      refine hK.out _ _ (by (first | exact KS.out _ (by assumption) | (simp only [Act.put]; exact KS.out _ (by assumption)))) (fun hHeld => ?_)
      clear hK K
      (try simp only [Act.put, List.setIfInBounds_toArray, List.set_cons_zero, List.set_cons_succ])
      refine wpAnyH_ready (rs := [7]) (by kernel_rfl) (by simp) ?_
      refine AllReadyH.cons rfl (fun K hK => ?_) AllReadyH.nil
      refine step_appR w3 (some ⟨g3, 0, none⟩) 4 4 (by rfl) _ _ (by rfl) W4.heap.size _ vs (by rfl) (by rfl) HX3.out.2.1 HVL.out HX3.out.2.2.2.2.1 ?_
      intro v5 w5 hg5
      obtain ⟨hq5, hj5, hk5⟩ := NodesJ.push (x := (a, m)) (H := H) HOB.out HX3.out.1 HX3.out.2.1 HX3.out.2.2.1 HX3.out.2.2.2.1 HG3.out.1 (by decide) (by decide) HG3.out.2.1 HG3.out.2.2.1 HG3.out.2.2.2 hg5
      obtain ⟨A5, n5, c5, rfl, hn5, _⟩ := ownR_shape hg5.own
      have kk5 : W4.grownBy w5 (some ob) ∧ KeepG W1 w5 := ⟨grownBy_new HX3.out.2.2.2.1 hg5.grown fun k hk => (World.ownsRow.lt HX3.out.2.1 k hk).1, (KeepG.of HX3.out.2.2.2.2.2).trans (KeepG.grew hg5 HX3.out.2.1)⟩
      have kk6 : W4.grownBy (w5.setCell ⟨ob, 2, none⟩ (.slice A5 n5 c5)) (some ob) ∧ KeepG W1 (w5.setCell ⟨ob, 2, none⟩ (.slice A5 n5 c5)) := ⟨grownBy_trans kk5.1 blk_grown, (KeepG.of HX3.out.2.2.2.2.2).trans hk5⟩
      have e2 := (hq5.cell 2).trans (show _ = some (.slice AV nV cV) from rfl)
      have z2 := hq5.frozen 2
      have HFIN := Lib.hid (And.intro hj5 (HKG.out.trans kk6.2))
      clear hj5 hk5 hq5 hg5 hn5
      refine hK.out _ _ (by (first | exact KS.out _ (by assumption) | (simp only [Act.put]; exact KS.out _ (by assumption)))) (fun hHeld => ?_)
      clear hK K
      (try simp only [Act.put, List.setIfInBounds_toArray, List.set_cons_zero, List.set_cons_succ])
      refine stH 8 (fun K hK => ?_)
      go_simp
      refine hK.out _ _ (by (first | exact KS.out _ (by assumption) | (simp only [Act.put]; exact KS.out _ (by assumption)))) (fun hHeld => ?_)
      clear hK K
      (try simp only [Act.put, List.setIfInBounds_toArray, List.set_cons_zero, List.set_cons_succ])
      refine stH 9 (fun K hK => ?_)
      go_simp
      refine hK.out _ _ (by (first | exact KS.out _ (by assumption) | (simp only [Act.put]; exact KS.out _ (by assumption)))) (fun hHeld => ?_)
      clear hK K
      (try simp only [Act.put, List.setIfInBounds_toArray, List.set_cons_zero, List.set_cons_succ])
      refine wpAnyH_done (by kernel_rfl) ?_ _
      go_wp2
      go_end0
      exact ⟨⟨_, rfl⟩, HFIN.out.1, HFIN.out.2⟩
    · go_simp
      refine hK.out _ _ (by (first | exact KS.out _ (by assumption) | (simp only [Act.put]; exact KS.out _ (by assumption)))) (fun hHeld => ?_)
      clear hK K
      (try simp only [Act.put, List.setIfInBounds_toArray, List.set_cons_zero, List.set_cons_succ])
      refine stH 1 (fun K hK => ?_)
      go_simp
      refine hK.out _ _ (by (first | exact KS.out _ (by assumption) | (simp only [Act.put]; exact KS.out _ (by assumption)))) (fun hHeld => ?_)
      clear hK K
      (try simp only [Act.put, List.setIfInBounds_toArray, List.set_cons_zero, List.set_cons_succ])
      refine wpAnyH_ready (rs := [7]) (by kernel_rfl) (by simp) ?_
      refine AllReadyH.cons rfl (fun K hK => ?_) AllReadyH.nil
      refine step_appR w3 (some ⟨g3, 0, none⟩) 4 4 (by rfl) _ _ (by rfl) W4.heap.size _ vs (by rfl) (by rfl) HX3.out.2.1 HVL.out HX3.out.2.2.2.2.1 ?_
      intro v5 w5 hg5
      obtain ⟨hq5, hj5, hk5⟩ := NodesJ.push (x := (a, m)) (H := H) HOB.out HX3.out.1 HX3.out.2.1 HX3.out.2.2.1 HX3.out.2.2.2.1 HG3.out.1 (by decide) (by decide) HG3.out.2.1 HG3.out.2.2.1 HG3.out.2.2.2 hg5
      obtain ⟨A5, n5, c5, rfl, hn5, _⟩ := ownR_shape hg5.own
      have kk5 : W4.grownBy w5 (some ob) ∧ KeepG W1 w5 := ⟨grownBy_new HX3.out.2.2.2.1 hg5.grown fun k hk => (World.ownsRow.lt HX3.out.2.1 k hk).1, (KeepG.of HX3.out.2.2.2.2.2).trans (KeepG.grew hg5 HX3.out.2.1)⟩
      have kk6 : W4.grownBy (w5.setCell ⟨ob, 2, none⟩ (.slice A5 n5 c5)) (some ob) ∧ KeepG W1 (w5.setCell ⟨ob, 2, none⟩ (.slice A5 n5 c5)) := ⟨grownBy_trans kk5.1 blk_grown, (KeepG.of HX3.out.2.2.2.2.2).trans hk5⟩
      have e2 := (hq5.cell 2).trans (show _ = some (.slice AV nV cV) from rfl)
      have z2 := hq5.frozen 2
      have HFIN := Lib.hid (And.intro hj5 (HKG.out.trans kk6.2))
      clear hj5 hk5 hq5 hg5 hn5
      refine hK.out _ _ (by (first | exact KS.out _ (by assumption) | (simp only [Act.put]; exact KS.out _ (by assumption)))) (fun hHeld => ?_)
      clear hK K
      (try simp only [Act.put, List.setIfInBounds_toArray, List.set_cons_zero, List.set_cons_succ])
      refine stH 8 (fun K hK => ?_)
      go_simp
      refine hK.out _ _ (by (first | exact KS.out _ (by assumption) | (simp only [Act.put]; exact KS.out _ (by assumption)))) (fun hHeld => ?_)
      clear hK K
      (try simp only [Act.put, List.setIfInBounds_toArray, List.set_cons_zero, List.set_cons_succ])
      refine stH 9 (fun K hK => ?_)
      go_simp
      refine hK.out _ _ (by (first | exact KS.out _ (by assumption) | (simp only [Act.put]; exact KS.out _ (by assumption)))) (fun hHeld => ?_)
      clear hK K
      (try simp only [Act.put, List.setIfInBounds_toArray, List.set_cons_zero, List.set_cons_succ])
      refine wpAnyH_done (by kernel_rfl) ?_ _
      go_wp2
      go_end0
      exact ⟨⟨_, rfl⟩, HFIN.out.1, HFIN.out.2⟩
end Go.Proofs.YteceghbjjnknbaaGreat
