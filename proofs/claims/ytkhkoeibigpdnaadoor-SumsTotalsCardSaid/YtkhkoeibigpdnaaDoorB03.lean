/- A bundle of texts: Md, AppA, Rp, Code, Coef, Arg, LawG3, Rq, Qp. -/
import Derived.Test.YtkhkoeibigpdnaaDoorB02
import Derived.RegionTactic
import Derived.ChangeAlike
import Derived.Test.YtkhkoeibigpdnaaDoorB01
import Derived.Deep.AppendLies
import Derived.Deep.QuietTactic
import Derived.BigQuiet
import Derived.Outline
import Derived.WalkLawsBesides
import Derived.WalkSpells
import Derived.Test.YtkhkoeibigpdnaaDoorB00
import Derived.Deep.RegionHeld3
import Derived.Deep.DeepCutAuto
import Derived.ChangeSlices
/- Walk: law2.made. -/
set_option linter.unusedVariables false
namespace Go.Proofs.YtkhkoeibigpdnaaDoor
open Go.RowKit Zp

abbrev NoMade : Value := .tuple #[.pointer none, .agg #[vi 0, vi 0, vi 0, vi 0], .bool true]
theorem blk4 {w w1 : World} {t : TypeId} {a b c d : Value} (hb : Below (w.alloc (.cells #[a, b, c, d] t)).heap.size (w.alloc (.cells #[a, b, c, d] t)) w1) :
    w1.cell? ⟨w.heap.size, 0, none⟩ = some a ∧ w1.cell? ⟨w.heap.size, 1, none⟩ = some b ∧ w1.cell? ⟨w.heap.size, 2, none⟩ = some c ∧ w1.cell? ⟨w.heap.size, 3, none⟩ = some d ∧ ∀ i, w1.frozen? ⟨w.heap.size, i, none⟩ = false := by
  have h := (Blk.new w t #[a, b, c, d]).below hb (by simp)
  exact ⟨(h.cell 0).trans rfl, (h.cell 1).trans rfl, (h.cell 2).trans rfl, (h.cell 3).trans rfl, fun i => h.frozen i⟩
/-- a block of zeros -/
def ZeroBlk (w : World) (B : Nat) : Prop := ∀ a : Addr, a.block = B → ∀ v, w.cell? a = some v → v = vi 0
theorem zeroBlk {w : World} {B : Nat} {t : TypeId} (h : Blk w B t #[vi 0, vi 0, vi 0, vi 0]) : ZeroBlk w B := fun a ha v hv => by
  unfold Blk at h
  subst ha
  unfold World.cell? at hv
  rw [h] at hv
  simp only at hv
  split at hv
  · cases hv
  · have : a.off < 4 := by
      false_or_by_contra
      rename_i hge
      rw [Array.getElem?_eq_none (by simpa using hge)] at hv
      cases hv
    match a.off, hv, this with
    | 0, hv, _ => simpa using hv.symm
    | 1, hv, _ => simpa using hv.symm
    | 2, hv, _ => simpa using hv.symm
    | 3, hv, _ => simpa using hv.symm
theorem Fld.keepZ {w w' : World} {S b p B : Nat} [NeZero p] (h : Fld w S b p) (hz : ZeroBlk w B) (hk : ∀ q : Addr, q.block < S → q.block ≠ B → w'.cell? q = w.cell? q) (hs : w.heap.size ≤ w'.heap.size) : Fld w' S b p := by
  have h3 := h.three
  have hb : b ≠ B := fun e => by
    have := hz ⟨b, 0, none⟩ e _ h.c0
    injection this with _ h1
    omega
  obtain ⟨A, c, fs, a1, a2, a3, a4⟩ := h.c1
  refine ⟨h.prime, h.three, h.max, h.lt, Nat.le_trans h.le hs, (hk _ h.lt hb).trans h.c0, ⟨A, c, fs, (hk _ h.lt hb).trans a1, a2, a3, a4.1, fun hn => ?_⟩, (hk _ h.lt hb).trans h.c2⟩
  obtain ⟨ad, e, hlt, hc⟩ := a4.2 hn
  refine ⟨ad, e, hlt, fun j u hu => ?_⟩
  have hcj := hc j u hu
  have hne : ad.block ≠ B := fun e2 => by
    have h1 := hz (ad.add j) (by rw [block_of_add]; exact e2) _ hcj
    rw [List.getElem?_map, List.getElem?_map] at hu
    cases hq : fs[j]? with
    | none => rw [hq] at hu; cases hu
    | some q =>
      rw [hq] at hu
      have h2 := a3.two q (List.mem_of_getElem? hq)
      simp only [Option.map_some, Option.some.injEq] at hu
      rw [← hu] at h1
      injection h1 with _ h4
      omega
  exact (hk _ (by rw [block_of_add]; exact hlt) (by rw [block_of_add]; exact hne)).trans hcj
theorem Dom.keepZ {w w' : World} {S D b p n B : Nat} [NeZero p] {s : Fin p} (h : Dom w S D b p n s) (hz : ZeroBlk w B) (hk : ∀ q : Addr, q.block < S → q.block ≠ B → w'.cell? q = w.cell? q) (hs : w.heap.size ≤ w'.heap.size) : Dom w' S D b p n s := by
  have hD : D ≠ B := fun e => by have := hz ⟨D, 0, none⟩ e _ h.c0; cases this
  exact ⟨h.fld.keepZ hz hk hs, h.lt, (hk _ h.lt hD).trans h.c0, (hk _ h.lt hD).trans h.c1, (hk _ h.lt hD).trans h.c2, (hk _ h.lt hD).trans h.c3, h.s0, h.size⟩

theorem Dom.upS {w : World} {S S' D b p n : Nat} [NeZero p] {s : Fin p} (h : Dom w S D b p n s) (h1 : S ≤ S') (h2 : S' ≤ w.heap.size) : Dom w S' D b p n s :=
  ⟨h.fld.moreS h1 h2, Nat.lt_of_lt_of_le h.lt h1, h.c0, h.c1, h.c2, h.c3, h.s0, h.size⟩
theorem errNil (w : World) (hg : Typed w) : Calls Tryd.prog 28 #[.nilIface, vi 0] w fun x w' => SaysW (.bool true) w x w' := error_any 0 0 w hg
theorem errIs (k : Int) (h : k ≠ 0) (w : World) (hg : Typed w) : Calls Tryd.prog 28 #[.iface 107 (.int .i64 k), vi k] w fun x w' => SaysW (.bool true) w x w' := by
  have h1 := error_any k k w hg
  rw [errV_ne h, show (k == k) = true from by simp] at h1
  exact h1

/-- there is no domain of this field: both sides say why -/
theorem dnew_fault (q S b : Nat) [NeZero q] (size t : Int) (ht : I64 t) (w : World) (F : Fld w S b q) (h : ¬ ∃ n : Nat, size = n ∧ SizeOk q n ∧ ¬ t % (q : Int) = 0) :
    ∃ k : Int, k ≠ 0 ∧ faultI q size t = k ∧ Calls Tryd.prog 65 #[.pointer (some ⟨b, 0, none⟩), vi size, vi t] w fun e w' => e = NoDom k ∧ w = w' := by
  have hc := F.c0
  by_cases h1 : size < 1 ∨ 65536 < size
  · exact ⟨2, by decide, faultI_size (fun ⟨n, e, hn⟩ => by have := hn.pos; have := hn.le; omega), dnew_size1 b size t h1 w⟩
  · obtain ⟨n, rfl⟩ := Int.eq_ofNat_of_zero_le (a := size) (by omega)
    by_cases h2 : SizeOk q n
    · have h3 : t % (q : Int) = 0 := by
        false_or_by_contra
        rename_i h3
        exact h ⟨n, rfl, h2, h3⟩
      exact ⟨3, by decide, faultI_shift h2 h3, dnew_shift q b n t ht F.two F.max h2 (el_eq_zero.2 h3) w hc⟩
    · have h4 : faultI q n t = 2 := faultI_size (by
        rintro ⟨m, e, hm⟩
        have e2 : n = m := by omega
        exact h2 (e2 ▸ hm))
      exact ⟨2, by decide, h4, dnew_size2 q b n t (by omega) (by omega) F.two F.max h2 w hc⟩

set_option maxRecDepth 100000 in
set_option maxHeartbeats 1000000 in
theorem made2_nof (p size t : Int) (hp : I64 p) (h : ¬ HasField p) (w : World) (hT : Typed w) :
    Calls Tryd.prog 18 #[vi p, vi size, vi t] w fun e w' => SaysW NoMade w e w' := by
  have hbA : Below w.heap.size w (w.alloc (.cells #[vi 0, vi 0, vi 0, vi 0] 31)) := (Below.refl _ _).alloc (Nat.le_refl _) _
  have HN := Lib.hid (sfield_no p hp h _ (hT.below hbA))
  clear h
  go_enter Tryd.func18, Tryd.ntmps18
  go_wp2_with fail
  refine (HN.out).mono ?_
  rintro e w1 ⟨rfl, hb1⟩
  obtain ⟨c0, c1, c2, c3, hfz⟩ := blk4 hb1
  have f0 := hfz 0
  have f1 := hfz 1
  have f2 := hfz 2
  have f3 := hfz 3
  clear hfz
  go_wp2
  refine bodyPost_ret (v := NoMade) (by simp [results, Tryd.results18, go_sem, c0, c1, c2, c3]) rfl ⟨rfl, ?_⟩
  exact ((((hbA.trans (hb1.mono hbA.size)).setCell (by simp) _).setCell (by simp) _).setCell (by simp) _).setCell (by simp) _

set_option maxRecDepth 100000 in
set_option maxHeartbeats 1000000 in
theorem made2_nod (q : Nat) [NeZero q] (h3 : 3 ≤ q) (hqm : q ≤ 2147483647) (hpr : IsPrime q) (size t : Int) (hs : I64 size) (ht : I64 t) (h : ¬ ∃ n : Nat, size = n ∧ SizeOk q n ∧ ¬ t % (q : Int) = 0) (w : World) (hT : Typed w) :
    Calls Tryd.prog 18 #[vi q, vi size, vi t] w fun e w' => SaysW NoMade w e w' := by
  have hbA : Below w.heap.size w (w.alloc (.cells #[vi 0, vi 0, vi 0, vi 0] 31)) := (Below.refl _ _).alloc (Nat.le_refl _) _
  have HF := Lib.hid (sfield_yes q h3 hqm hpr _ (hT.below hbA))
  have hTA := hT.below hbA
  have HD := Lib.hid (fun b S W F => dnew_fault q S b size t ht W F h)
  have HR := Lib.hid (fun W => rfault_any q (by omega) hqm size t hs ht W)
  clear h hpr
  go_enter Tryd.func18, Tryd.ntmps18
  go_wp2_with fail
  refine (HF.out).mono ?_
  rintro e w1 ⟨b, rfl, F, hb1⟩
  obtain ⟨k, hk0, hfk, hnew⟩ := HD.out b _ w1 F
  rw [hfk] at HR
  have HN := Lib.hid hnew
  have hT1 := hTA.below hb1
  have t1 : (k != 0) = true := by rw [bne_iff_ne]; exact hk0
  have HE := Lib.hid (fun W hg => errIs k hk0 W hg)
  clear hnew hfk hk0
  go_wp2_with fail
  refine (HN.out).mono ?_
  rintro e w' ⟨rfl, rfl⟩
  go_wp2_with fail
  refine (HR.out _).mono ?_
  rintro e w' ⟨rfl, rfl⟩
  go_wp2_with fail
  refine (HE.out _ hT1).mono ?_
  rintro e w2 ⟨rfl, hb2⟩
  have hb12 := hb1.trans (hb2.mono hb1.size)
  obtain ⟨c0, c1, c2, c3, hfz⟩ := blk4 hb12
  have f0 := hfz 0
  have f1 := hfz 1
  have f2 := hfz 2
  have f3 := hfz 3
  clear hfz
  go_wp2
  refine bodyPost_ret (v := NoMade) (by simp [results, Tryd.results18, go_sem, c0, c1, c2, c3]) rfl ⟨rfl, ?_⟩
  exact ((((hbA.trans (hb12.mono hbA.size)).setCell (by simp) _).setCell (by simp) _).setCell (by simp) _).setCell (by simp) _

/-- a domain on both sides -/
def MadeTwo (q n : Nat) [NeZero q] (t : Int) (w : World) (e : Ending) (w' : World) : Prop :=
  ∃ b D : Nat, e = .returned (.tuple #[.pointer (some ⟨D, 0, none⟩), RDom q n (fv (el q t)) (fv (rootI q n)), .bool true]) ∧ Dom w' w'.heap.size D b q n (el q t) ∧ Below w.heap.size w w'
set_option maxRecDepth 100000 in
set_option maxHeartbeats 2000000 in
theorem made2_yes (q n : Nat) [NeZero q] (h3 : 3 ≤ q) (hqm : q ≤ 2147483647) (hpr : IsPrime q) (t : Int) (ht : I64 t) (hsz : SizeOk q n) (h0 : ¬ t % (q : Int) = 0) (w : World) (hT : Typed w) :
    Calls Tryd.prog 18 #[vi q, vi n, vi t] w fun e w' => MadeTwo q n t w e w' := by
  have hbA : Below w.heap.size w (w.alloc (.cells #[vi 0, vi 0, vi 0, vi 0] 31)) := (Below.refl _ _).alloc (Nat.le_refl _) _
  have HF := Lib.hid (sfield_yes q h3 hqm hpr _ (hT.below hbA))
  have hTA := hT.below hbA
  have hn := hsz.le
  have HD := Lib.hid (fun b S W F => dnew_ok q S b n t ht hsz (fun h => h0 (el_eq_zero.1 h)) W F)
  have hr := fun W => rfault_any q (by omega) hqm n t (by constructor <;> omega) ht W
  rw [faultI_ok hsz h0] at hr
  have HR := Lib.hid hr
  have HW := Lib.hid (fun W => rnew_any q hpr h3 hqm n hn t ht W)
  clear h0 hpr hsz hr
  go_enter Tryd.func18, Tryd.ntmps18
  go_wp2_with fail
  refine (HF.out).mono ?_
  rintro e w1 ⟨b, rfl, F, hb1⟩
  go_wp2_with fail
  refine (HD.out b _ w1 F).mono ?_
  rintro e w2 ⟨D, rfl, hD, hb2, _⟩
  have hb12 := hb1.trans (hb2.mono hb1.size)
  have hT2 := hTA.below hb12
  go_wp2_with fail
  refine (HR.out _).mono ?_
  rintro e w' ⟨rfl, rfl⟩
  go_wp2_with fail
  refine (errNil _ hT2).mono ?_
  rintro e w3 ⟨rfl, hb3⟩
  have hb13 := hb12.trans (hb3.mono hb12.size)
  have hD3 := hD.below hb3 (Nat.le_refl _)
  go_wp2_with fail
  refine (HW.out _).mono ?_
  rintro e w4 ⟨rfl, hb4⟩
  have hb14 := hb13.trans (hb4.mono hb13.size)
  have hD4 := hD3.below hb4 hD3.fld.le
  have hB14 := (Blk.new w 31 #[vi 0, vi 0, vi 0, vi 0]).below hb14 (by simp)
  have hz := zeroBlk hB14
  obtain ⟨c0, c1, c2, c3, hfz⟩ := blk4 hb14
  have f0 := hfz 0
  have f1 := hfz 1
  have f2 := hfz 2
  have f3 := hfz 3
  have hsz4 : w.heap.size < w4.heap.size := by have := hb14.size; simp at this; omega
  clear hfz
  go_wp2
  have hB5 := ((((hB14.set_ 0 (vi q)).set_ 1 (vi n)).set_ 2 (vi (fv (el q t)))).set_ 3 (vi (fv (rootI q n)))).alloc (.cells #[vi q, vi n, vi (fv (el q t)), vi (fv (rootI q n))] 31)
  have e0 := (hB5.cell 0).trans (show _ = some (vi q) from rfl)
  have e1 := (hB5.cell 1).trans (show _ = some (vi n) from rfl)
  have e2 := (hB5.cell 2).trans (show _ = some (vi (fv (el q t))) from rfl)
  have e3 := (hB5.cell 3).trans (show _ = some (vi (fv (rootI q n))) from rfl)
  have hbw := hbA.trans (hb14.mono hbA.size)
  go_region
  go_wp2
  refine bodyPost_ret (v := .tuple #[.pointer (some ⟨D, 0, none⟩), RDom q n (fv (el q t)) (fv (rootI q n)), .bool true]) (by simp [results, Tryd.results18, go_sem, e0, e1, e2, e3]) rfl ⟨b, D, rfl, ?_, ?_⟩
  · refine Dom.upS (hD4.keepZ hz (fun a ha hne => ?_) ?_) ?_ ?_
    · have hlt : a.block < w4.heap.size := Nat.lt_of_lt_of_le ha hD4.fld.le
      show (World.alloc _ _).cell? a = _
      rw [World.cell?_alloc_lt _ _ a (by simpa using hlt), World.cell?_setCell_other _ _ _ _ (fun e => hne (by rw [← e])), World.cell?_setCell_other _ _ _ _ (fun e => hne (by rw [← e])), World.cell?_setCell_other _ _ _ _ (fun e => hne (by rw [← e])), World.cell?_setCell_other _ _ _ _ (fun e => hne (by rw [← e]))]
    · show w4.heap.size ≤ (World.alloc _ _).heap.size
      simp
    · show w2.heap.size ≤ (World.alloc _ _).heap.size
      have := hD4.fld.le
      simp; omega
    · exact Nat.le_refl _
  · exact below_drewN ((((((hbw.setCell (by simp) _).setCell (by simp) _).setCell (by simp) _).setCell (by simp) _).alloc (by simp; omega) _)) 1
end Go.Proofs.YtkhkoeibigpdnaaDoor

/- append of a whole slice of ints to a slice of ints of the call's own (two lemmas after the guide's own page of words); slices.Clone. -/
set_option linter.unusedVariables false
namespace Go.Proofs.YtkhkoeibigpdnaaDoor
open Go.RowKit

section
variable {P : Program} (w : World)

theorem run_append_of_nil (base : Nat) (t ty e : TypeId) (i : TypeInfo) (size : Nat) (ht : P.underlying t = some (.slice e)) (hi : P.info? e = some i)
    (v : Value) (n : Nat) (xs : List Value) (hown : w.ownsRow base e size v n xs) (c : Nat) : (Builtin.append_ #[t, t] ty #[v, .slice none 0 c]).run P w = .ok v w := by
  rcases hown.2 with ⟨rfl, rfl⟩ | ⟨g, cap, cur, rfl, _, _, hnc, _⟩
  · simp [Builtin.append_, run_underlying ht, sizeOf, typeInfo, hi, Builtin.lenOf, Builtin.firstCells]
  · simp [Builtin.append_, run_underlying ht, sizeOf, typeInfo, hi, Builtin.lenOf, Builtin.firstCells, hnc, storeCells]

theorem run_append_any (base : Nat) (t ty e : TypeId) (i : TypeInfo) (z : Value) (size bytes : Nat) (ht : P.underlying t = some (.slice e)) (hi : P.info? e = some i) (hz : i.zero = some z)
    (hsize : i.size = size) (hby : i.bytes = bytes) (hzs : z.cells.size = size) (hsz : 0 < size)
    (v : Value) (n : Nat) (xs : List Value) (hown : w.ownsRow base e size v n xs)
    (B : Nat) (A : Option Addr) (m c : Nat) (news : List Value) (hr : Reads w B size A m news) (h1 : ∀ u ∈ news, u.oneCell' = true)
    (h63 : n + m ≤ maxLen) (hbytes : (n + m) * bytes ≤ 140737488355328) (hbase : base ≤ w.heap.size) :
    ∃ v' w', (Builtin.append_ #[t, t] ty #[v, .slice A m c]).run P w = .ok v' w' ∧ w'.ownsRow base e size v' (n + m) (xs ++ news) ∧ w.grownBy w' v.ownBlock ∧
      (v'.ownBlock = v.ownBlock ∨ v'.ownBlock = some w.heap.size) := by
  rcases A with _ | ad
  · have hm : m = 0 := by
      rcases Nat.eq_zero_or_pos m with h0 | h0
      · exact h0
      · obtain ⟨ad, h, _⟩ := hr.2 h0
        cases h
    subst hm
    have hn : news = [] := List.eq_nil_of_length_eq_zero (by simpa using hr.1)
    subst hn
    exact ⟨v, w, run_append_of_nil w base t ty e i size ht hi v n xs hown c, by simpa using hown, World.grownBy.refl w _, .inl rfl⟩
  · have hcells : ∀ j u, news[j]? = some u → w.cell? (ad.add j) = some u := by
      intro j u hu
      rcases Nat.eq_zero_or_pos m with h0 | h0
      · subst h0
        have hn : news = [] := List.eq_nil_of_length_eq_zero (by simpa using hr.1)
        subst hn
        simp at hu
      · obtain ⟨ad', h, _, hc⟩ := hr.2 h0
        injection h with h
        subst h
        exact hc j u hu
    obtain ⟨v', w', hrun, h2, h3, _, h5⟩ := run_append_own_at (P := P) w base t ty e i z size bytes ht hi hz hsize hby hzs hsz v n xs hown ad m c news hr.1 hcells h1 h63 hbytes hbase
    exact ⟨v', w', hrun, h2, h3, h5⟩

end

theorem run_appA (w : World) (base : Nat) (v : Value) (xs : List Int) (A : Option Addr) (m c : Nat) (ys : List Int) (hm : ys.length = m) (hown : Own w base v xs) (hr : SL w A ys) (hlen : xs.length + m ≤ 17592186044416) (hbase : base ≤ w.heap.size) (ty : TypeId) :
    ∃ v' w', (Builtin.append_ #[22, 22] ty #[v, .slice A m c]).run Tryd.prog w = .ok v' w' ∧ Grew w w' base v v' (xs ++ ys) := by
  subst hm
  obtain ⟨i0, hi, hz0, hz1, hz2⟩ := info_parts info_int
  obtain ⟨v', w', hrun, h2, h3, h4⟩ := run_append_any (P := Tryd.prog) w base 22 ty 3 i0 _ 1 8 Tryd.underlying22 hi hz0 hz1 hz2 rfl (by omega) v xs.length (xs.map vi) hown w.heap.size A ys.length c (ys.map vi) hr
    (fun u hu => by obtain ⟨n, _, rfl⟩ := List.mem_map.1 hu; rfl) (by simp only [maxLen]; omega) (by omega) hbase
  refine ⟨v', w', hrun, ?_, h3, ?_⟩
  · rw [Own, List.length_append, List.map_append]
    exact h2
  · rcases h4 with h | h
    · exact .inl h
    · exact .inr ⟨_, h, Nat.le_refl _⟩

/-- append(v, ys...) -/
theorem wpList_appA {ops : Array Oper} {rest : List Oper} {o : Oper} {a : Act} {Q : Exit → Act → World → Prop} (w : World) (hgd : o.guard = none) (s x : Operand)
    (ho : o.op = .call { callee := .builtin .append, args := #[s, x], argTypes := #[22, 22] })
    (base : Nat) (v : Value) (xs : List Int) (A : Option Addr) (m c : Nat) (ys : List Int) (hs : a.eval s = v) (hx : a.eval x = .slice A m c) (hm : ys.length = m) (hown : Own w base v xs) (hr : SL w A ys) (hlen : xs.length + m ≤ 17592186044416) (hbase : base ≤ w.heap.size)
    (h : ∀ v' w', Grew w w' base v v' (xs ++ ys) → wpList Tryd.prog ops Q rest (a.put o.dst v') w') : wpList Tryd.prog ops Q (o :: rest) a w :=
  wpList_plain hgd fun _ hK => by
    obtain ⟨v', w', hrun, hg⟩ := run_appA w base v xs A m c ys hm hown hr hlen hbase o.type
    unfold Oper.wp execOp
    simp only [ho, resolve, invoke, builtin, Sem.run_bind, Sem.run_pure, Result.andThen_ok, List.map_toArray, List.map_cons, List.map_nil, hs, hx, hrun]
    exact hK _ _ (h v' w' hg)

/-- an empty slice that is not nil -/
theorem own_empty (w : World) (base : Nat) (hb : base ≤ w.heap.size) : Own (w.alloc (.cells #[] 3)) base (.slice (some ⟨w.heap.size, 0, none⟩) 0 0) [] :=
  World.ownsRow_made w _ 0 hb (Nat.zero_le _) rfl

set_option maxHeartbeats 1000000 in
theorem clone_any (A : Option Addr) (m c : Nat) (xs : List Int) (hm : xs.length = m) (hlen : m ≤ 17592186044416) (w : World) (hs : SL w A xs) :
    Calls Tryd.prog 77 #[.slice A m c] w fun e w' => Made xs w e w' := by
  have hq := fun (W : World) => Lib.run_eql_slice_nil (P := Tryd.prog) W 22 3 A m c 0 0 Tryd.underlying22
  cases A with
  | none =>
    have hx : xs = [] := by
      rcases Nat.eq_zero_or_pos xs.length with h | h
      · exact List.length_eq_zero_iff.1 h
      · obtain ⟨ad, h1, _⟩ := hs.at_ h
        cases h1
    have hn : (none : Option Addr).isNone = true := rfl
    have HX := Lib.hid hx
    clear hx hm
    go_enter Tryd.func77, Tryd.ntmps77
    go_wp2
    go_ret
    exact ⟨_, rfl, by rw [HX.out]; exact World.ownsRow_nil _ _ _ _, Below.refl _ _⟩
  | some ad =>
    have HM := Lib.hid hm
    clear hm
    have hs' : SL (w.alloc (.cells #[] 3)) (some ad) xs := hs.below ((Below.refl _ _).alloc (Nat.le_refl _) _)
    have ho := own_empty w w.heap.size (Nat.le_refl _)
    go_enter Tryd.func77, Tryd.ntmps77
    go_wp2_with (at_builtin; refine wpList_appA _ rfl _ _ rfl w.heap.size _ [] (some ad) m c xs rfl rfl HM.out ho hs' (by simpa using hlen) (by simp) ?_; intro v' w1 hg)
    go_ret
    exact ⟨v', rfl, hg.own, hg.below ((Below.refl _ _).alloc (Nat.le_refl _) _) ho (Nat.le_refl _) (by simp)⟩
end Go.Proofs.YtkhkoeibigpdnaaDoor

/- Walks of the reference's polynomials: Degree, Trim, At, Plus, Scaled, Times, Eval. -/
set_option linter.unusedVariables false
namespace Go.Proofs.YtkhkoeibigpdnaaDoor
open Go.RowKit Zp

theorem i64_fvsR {p : Nat} (l : List (Fin p)) (hp2 : p ≤ 2147483647) : ∀ n ∈ fvs l, I64 n := fun n hn => by
  obtain ⟨x, _, rfl⟩ := List.mem_map.1 hn
  exact i64_fv x hp2
theorem sl_lit' (w : World) (xs : List Int) : SL (w.alloc (.cells (xs.map vi).toArray 3)) (some ⟨w.heap.size, 0, none⟩) xs := by
  refine ⟨by simp, fun _ => ⟨_, rfl, by simp, fun j u hu => ?_⟩⟩
  have e : (⟨w.heap.size, 0, none⟩ : Addr).add j = ⟨w.heap.size, j, none⟩ := by simp [Addr.add]; intro h; exact h.symm
  rw [e, (Blk.new w 3 (xs.map vi).toArray).cell]
  simpa using hu
theorem SL.take {w : World} {A : Option Addr} {xs : List Int} (h : SL w A xs) (k : Nat) : SL w A (xs.take k) := by
  refine ⟨by simp, fun hn => ?_⟩
  have hl : (xs.take k).length = min k xs.length := List.length_take
  obtain ⟨ad, e, hb, hc⟩ := h.2 (by omega)
  refine ⟨ad, e, hb, fun j u hu => hc j u ?_⟩
  rw [List.map_take, List.getElem?_take] at hu
  split at hu
  · exact hu
  · cases hu

theorem rall_n (p : Nat) [NeZero p] (hp2 : p ≤ 2147483647) (A : Option Addr) (n cap : Nat) (xs : List Int) (hml : xs.length = n) (hxs : ∀ n ∈ xs, I64 n) (hreach : n * 8 ≤ 140737488351232) (w : World) (hs : SL w A xs) :
    Calls Tryd.prog 34 #[vi p, .slice A n cap] w fun e w' => Made (fvs (els p xs)) w e w' := by
  subst hml
  exact rall_any p hp2 A cap xs hxs hreach w hs

set_option maxHeartbeats 1000000 in
theorem rdegree_n (p : Nat) [NeZero p] (hp2 : p ≤ 2147483647) (A : Option Addr) (len cap : Nat) (xs : List Int) (hml : xs.length = len) (hxs : ∀ n ∈ xs, I64 n) (hreach : len * 8 ≤ 281474976710656) (w : World) (hs : SL w A xs) :
    Calls Tryd.prog 36 #[vi p, .slice A len cap] w fun e w' => e = .returned (vi (degL (els p xs))) ∧ w = w' := by
  have HL := Lib.hid hml.symm
  clear hml
  go_enter Tryd.func36, Tryd.ntmps36
  go_wp2
  go_loop [5, 6] (fun i _ => DegRel p xs i) (fun i _ => (intOf i + 1).toNat)
  case atStart => exact ⟨len, by rw [HL.out]; exact Nat.le_refl _, rfl, by rw [HL.out]; exact ZeroFrom.start p xs⟩
  case round =>
    obtain ⟨k, hk, rfl, hz⟩ := hrel
    rw [← HL.out] at hk
    have HZ := Lib.hid hz
    clear hz
    by_cases h0 : k = 0
    · subst h0
      have t1 : decide ((0 : Int) ≤ (((0 : Nat) : Int) - 1)) = false := by simp
      go_wp2
      go_ret
      exact ⟨ret_int (HZ.out.done (.inl rfl)).symm, rfl⟩
    · have i0 : (0 : Int) ≤ (k : Int) - 1 := by omega
      have i1 : (1 : Int) ≤ (k : Int) := by omega
      have i2 : ((k : Int) - 1).toNat = k - 1 := by omega
      have hkx : k - 1 < xs.length := by rw [← HL.out]; omega
      obtain ⟨ad, rfl, hab, hcell⟩ := hs.at_ hkx
      have hI := hxs _ (List.getElem_mem hkx)
      have hco : co (els p xs) (k - 1) = el p xs[k - 1] := by rw [co_of_lt (by simpa using hkx)]; simp
      obtain ⟨x, hx⟩ : ∃ x, x = xs[k - 1] := ⟨_, rfl⟩
      rw [← hx] at hI hcell hco
      have hcell' : w.cell? (ad.add ((k : Int) - 1).toNat) = some (vi x) := by rw [i2]; exact hcell
      have HC := Lib.hid hco
      clear hx hco i2
      by_cases hx0 : el p x = 0
      · have t1 : (fv (el p x) != 0) = false := by rw [hx0]; rfl
        have hz2 : ZeroFrom p xs (k - 1) := ZeroFrom.next (by rw [show k - 1 + 1 = k from by omega]; exact HZ.out) (by rw [HC.out]; exact hx0)
        have HZ2 := Lib.hid hz2
        clear hz2 hx0
        go_wp2_with (go_at_call 39; refine (rof_any p hp2 x hI _).mono ?_; rintro e w' ⟨rfl, rfl⟩)
        go_round
        case rel => exact ⟨k - 1, by rw [← HL.out]; omega, by congr 1; omega, HZ2.out⟩
        case measure => simp [intOf]; omega
      · have t1 : (fv (el p x) != 0) = true := by rw [bne_iff_ne]; exact fun h => hx0 (fv_eq_zero.1 h)
        have hd := HZ.out.done (.inr (by rw [HC.out]; exact hx0))
        have HD := Lib.hid hd
        clear hd hx0
        go_wp2_with (go_at_call 39; refine (rof_any p hp2 x hI _).mono ?_; rintro e w' ⟨rfl, rfl⟩)
        go_ret
        exact ⟨ret_int HD.out.symm, rfl⟩

theorem rtrim_n (p : Nat) [NeZero p] (hp2 : p ≤ 2147483647) (A : Option Addr) (len cap : Nat) (xs : List Int) (hml : xs.length = len) (hxs : ∀ n ∈ xs, I64 n) (hreach : len * 8 ≤ 140737488351232) (hcap : len ≤ cap) (w : World) (hs : SL w A xs) :
    Calls Tryd.prog 33 #[vi p, .slice A len cap] w fun e w' => Made (fvs (trimL (els p xs))) w e w' := by
  have hdeg := rdegree_n p hp2 A len cap xs hml hxs (by omega) w hs
  obtain ⟨n, hn⟩ : ∃ n, n = (trimL (els p xs)).length := ⟨_, rfl⟩
  have hnl : n ≤ len := by rw [hn, ← hml]; have := trimL_length_le (els p xs); simpa using this
  have hd : degL (els p xs) = (n : Int) - 1 := by unfold degL; rw [hn]
  rw [hd] at hdeg
  have hall := rall_n p hp2 A n cap (xs.take n) (by rw [List.length_take, hml]; omega) (fun x hx => hxs x (List.mem_of_mem_take hx)) (by omega) w (hs.take n)
  have he : els p (xs.take n) = trimL (els p xs) := by
    conv => rhs; rw [trimL_eq_take, ← hn]
    unfold els; rw [List.map_take]
  rw [he] at hall
  have HDEG := Lib.hid hdeg
  have HALL := Lib.hid hall
  have i1 : (0 : Int) ≤ (n : Int) := by omega
  have i2 : (n : Int) ≤ cap := by omega
  clear hn hd he hdeg hall hml
  go_enter Tryd.func33, Tryd.ntmps33
  go_wp2_with fail
  refine (HDEG.out).mono ?_
  rintro e w' ⟨rfl, rfl⟩
  go_wp2_with fail
  refine (HALL.out).mono ?_
  rintro e w1 ⟨v, rfl, hown, hb⟩
  go_wp2
  go_ret
  exact ⟨v, rfl, hown, hb⟩

theorem ref_at_n (A : Option Addr) (n c : Nat) (xs : List Int) (hn : xs.length = n) (hx : n ≤ 9223372036854775807) (i : Int) (hi : I64 i) (w : World) (hs : SL w A xs) :
    Calls Tryd.prog 64 #[.slice A n c, vi i] w fun e w' => e = .returned (vi (atI xs i)) ∧ w = w' := by
  subst hn
  exact at_any A c xs hx i hi w hs
theorem atI_getD (xs : List Int) (k : Nat) : atI xs (k : Int) = xs.getD k 0 := by
  rw [atI, if_pos (by omega), Int.toNat_natCast]
theorem i64_getD' {xs : List Int} (h : ∀ n ∈ xs, I64 n) (k : Nat) : I64 (xs.getD k 0) := by
  rw [List.getD_eq_getElem?_getD]
  cases hx : xs[k]? with
  | none => constructor <;> decide
  | some x => exact h x (List.mem_of_getElem? hx)
end Go.Proofs.YtkhkoeibigpdnaaDoor

/- Walks: code.may, Encode, Distance. -/
set_option linter.unusedVariables false
namespace Go.Proofs.YtkhkoeibigpdnaaDoor
open Go.RowKit Zp

/-- may k be? A Bool behind a name -/
def mayB (n : Nat) (k : Int) : Bool := decide (1 ≤ k ∧ k ≤ n)
theorem mayB_true {n : Nat} {k : Int} (h : 1 ≤ k ∧ k ≤ n) : mayB n k = true := decide_eq_true h
theorem mayB_false {n : Nat} {k : Int} (h : ¬ (1 ≤ k ∧ k ≤ n)) : mayB n k = false := decide_eq_false h
theorem may_any (D n : Nat) (k : Int) (w : World) (hc : w.cell? ⟨D, 1, none⟩ = some (vi n)) :
    Calls Tryd.prog 80 #[.pointer (some ⟨D, 0, none⟩), vi k] w fun e w' => e = .returned (.bool (mayB n k)) ∧ w = w' := by
  by_cases h1 : 1 ≤ k
  · by_cases h2 : k ≤ n
    · have h := mayB_true ⟨h1, h2⟩
      have H := Lib.hid h
      clear h
      go_enter Tryd.func80, Tryd.ntmps80
      go_wp2_with (go_at_call 22; refine (size_any D n _ hc).mono ?_; rintro e w' ⟨rfl, rfl⟩)
      go_ret
      exact ⟨ret_bool H.out.symm, rfl⟩
    · have t2 : decide (k ≤ (n : Int)) = false := by simpa using h2
      have h := mayB_false (n := n) (k := k) (fun h => h2 h.2)
      have H := Lib.hid h
      clear h
      go_enter Tryd.func80, Tryd.ntmps80
      go_wp2_with (go_at_call 22; refine (size_any D n _ hc).mono ?_; rintro e w' ⟨rfl, rfl⟩)
      go_ret
      exact ⟨ret_bool H.out.symm, rfl⟩
  · have t1 : decide (1 ≤ k) = false := by simpa using h1
    have h := mayB_false (n := n) (k := k) (fun h => h1 h.1)
    have H := Lib.hid h
    clear h
    go_enter Tryd.func80, Tryd.ntmps80
    go_wp2
    go_ret
    exact ⟨ret_bool H.out.symm, rfl⟩

abbrev NoWord (k : Int) : Ending := .returned (.tuple #[.slice none 0 0, .iface 107 (.int .i64 k)])
theorem encode_range (D n : Nat) (k : Int) (h : ¬ (1 ≤ k ∧ k ≤ n)) (v : Value) (w : World) (hc : w.cell? ⟨D, 1, none⟩ = some (vi n)) :
    Calls Tryd.prog 35 #[.pointer (some ⟨D, 0, none⟩), vi k, v] w fun e w' => e = NoWord 3 ∧ w = w' := by
  have hm := may_any D n k w hc
  rw [mayB_false h] at hm
  have HM := Lib.hid hm
  clear hm h
  go_enter Tryd.func35, Tryd.ntmps35
  go_wp2_with fail
  refine (HM.out).mono ?_
  rintro e w' ⟨rfl, rfl⟩
  go_wp2
  go_ret2
  exact ⟨rfl, rfl⟩

theorem encode_size (p S D b : Nat) [NeZero p] (n : Nat) (s : Fin p) (k : Int) (h : 1 ≤ k ∧ k ≤ n) (A : Option Addr) (m cap : Nat) (xs : List Int) (hml : xs.length = m) (hxs : ∀ x ∈ xs, I64 x) (hreach : m * 8 ≤ 281474976710656) (w : World) (hD : Dom w S D b p n s) (hs : SL w A xs) (hd : k ≤ degL (els p xs)) :
    Calls Tryd.prog 35 #[.pointer (some ⟨D, 0, none⟩), vi k, .slice A m cap] w fun e w' => e = NoWord 2 ∧ w = w' := by
  have hm := may_any D n k w hD.c1
  rw [mayB_true h] at hm
  have HM := Lib.hid hm
  subst hml
  have hdg := degree_any p hD.fld.max b A cap xs hxs hreach w hD.fld.c0 hs
  obtain ⟨d, hdd⟩ : ∃ d, d = degL (els p xs) := ⟨_, rfl⟩
  rw [← hdd] at hd hdg
  have HDG := Lib.hid hdg
  have hc0 := hD.c0
  clear hm h hdd hdg
  go_enter Tryd.func35, Tryd.ntmps35
  go_wp2_with fail
  refine (HM.out).mono ?_
  rintro e w' ⟨rfl, rfl⟩
  go_wp2_with fail
  refine (dfield_any D b _ hc0).mono ?_
  rintro e w' ⟨rfl, rfl⟩
  go_wp2_with fail
  refine (HDG.out).mono ?_
  rintro e w' ⟨rfl, rfl⟩
  go_wp2
  go_ret2
  exact ⟨rfl, rfl⟩

/-- a word of n elements, and no error -/
def Word (n : Nat) (xs : List Int) (w : World) (e : Ending) (w' : World) : Prop := ∃ A c, xs.length = n ∧ e = .returned (.tuple #[.slice A n c, .nilIface]) ∧ n ≤ c ∧ c ≤ maxLen ∧ SL w' A xs ∧ Below w.heap.size w w'
theorem encode_any (p S D b : Nat) [NeZero p] (n : Nat) (s : Fin p) (k : Int) (h : 1 ≤ k ∧ k ≤ n) (A : Option Addr) (m cap : Nat) (xs : List Int) (hml : xs.length = m) (hxs : ∀ x ∈ xs, I64 x) (hreach : m * 8 ≤ 281474976710656) (w : World) (hD : Dom w S D b p n s) (hs : SL w A xs) (hd : degL (els p xs) < k) :
    Calls Tryd.prog 35 #[.pointer (some ⟨D, 0, none⟩), vi k, .slice A m cap] w fun e w' => Word n (fvs (valL s (rootI p n) n (els p xs))) w e w' := by
  have hm := may_any D n k w hD.c1
  rw [mayB_true h] at hm
  have HM := Lib.hid hm
  have hv := values_n p S D b n s A m cap xs hml hxs hreach w hD hs
  have HV := Lib.hid hv
  have hdg := degree_any p hD.fld.max b A cap xs hxs (by rw [hml]; exact hreach) w hD.fld.c0 hs
  rw [hml] at hdg
  obtain ⟨d, hdd⟩ : ∃ d, d = degL (els p xs) := ⟨_, rfl⟩
  rw [← hdd] at hd hdg
  have HDG := Lib.hid hdg
  have hc0 := hD.c0
  clear hm h hdd hdg hv hml
  go_enter Tryd.func35, Tryd.ntmps35
  go_wp2_with fail
  refine (HM.out).mono ?_
  rintro e w' ⟨rfl, rfl⟩
  go_wp2_with fail
  refine (dfield_any D b _ hc0).mono ?_
  rintro e w' ⟨rfl, rfl⟩
  go_wp2_with fail
  refine (HDG.out).mono ?_
  rintro e w' ⟨rfl, rfl⟩
  go_wp2_with fail
  refine (HV.out).mono ?_
  rintro e w1 ⟨A1, c1, h1, rfl, h2, h3, h4, h5⟩
  go_wp2
  go_ret2
  exact ⟨A1, c1, h1, rfl, h2, h3, h4, h5⟩
/-- whatever Encode answers -/
def EncOut (p n : Nat) [NeZero p] (s : Fin p) (k : Int) (xs : List Int) (w : World) (e : Ending) (w' : World) : Prop :=
  (¬ ((1 ≤ k ∧ k ≤ n) ∧ degL (els p xs) < k) ∧ (e = NoWord 3 ∨ e = NoWord 2) ∧ w = w') ∨ (((1 ≤ k ∧ k ≤ n) ∧ degL (els p xs) < k) ∧ Word n (fvs (valL s (rootI p n) n (els p xs))) w e w')
theorem encode_all (p S D b : Nat) [NeZero p] (n : Nat) (s : Fin p) (k : Int) (A : Option Addr) (m cap : Nat) (xs : List Int) (hml : xs.length = m) (hxs : ∀ x ∈ xs, I64 x) (hreach : m * 8 ≤ 281474976710656) (w : World) (hD : Dom w S D b p n s) (hs : SL w A xs) :
    Calls Tryd.prog 35 #[.pointer (some ⟨D, 0, none⟩), vi k, .slice A m cap] w fun e w' => EncOut p n s k xs w e w' := by
  by_cases h1 : 1 ≤ k ∧ k ≤ n
  · by_cases h2 : degL (els p xs) < k
    · exact (encode_any p S D b n s k h1 A m cap xs hml hxs hreach w hD hs h2).mono fun e w' h => .inr ⟨⟨h1, h2⟩, h⟩
    · exact (encode_size p S D b n s k h1 A m cap xs hml hxs hreach w hD hs (by omega)).mono fun e w' ⟨h, h'⟩ => .inl ⟨fun h => h2 h.2, .inr h, h'⟩
  · exact (encode_range D n k h1 _ w hD.c1).mono fun e w' ⟨h, h'⟩ => .inl ⟨fun h => h1 h.1, .inl h, h'⟩

theorem of_elq (p : Nat) [NeZero p] (hp2 : p ≤ 2147483647) (b : Nat) (n : Int) (hn : I64 n) (w : World) (hc : w.cell? ⟨b, 0, none⟩ = some (vi p)) :
    Calls Tryd.prog 63 #[.pointer (some ⟨b, 0, none⟩), vi n] w fun e w' => e = .returned (vi (fv (el p n))) ∧ w = w' :=
  (of_el p hp2 b n hn w hc).mono fun _ _ h => ⟨h.1, h.2.symm⟩
/-- at how many places two lists differ -/
def distI (p : Nat) [NeZero p] (xs ys : List Int) : Nat := max xs.length ys.length - min xs.length ys.length + diffN (min xs.length ys.length) (co (els p xs)) (co (els p ys))
def DistRel (p : Nat) [NeZero p] (xs ys : List Int) (d n : Nat) (w : World) (v i : Value) (wr : World) : Prop := ∃ k j : Nat, k ≤ n ∧ i = vi k ∧ v = vi ((d + diffN k (co (els p xs)) (co (els p ys)) : Nat) : Int) ∧ wr = w.drewN j

set_option maxRecDepth 100000 in
set_option maxHeartbeats 1000000 in
theorem distance_any (p : Nat) [NeZero p] (hp2 : p ≤ 2147483647) (b : Nat) (A B : Option Addr) (na ca nb cb : Nat) (xs ys : List Int) (hna : xs.length = na) (hnb : ys.length = nb) (hxs : ∀ n ∈ xs, I64 n) (hys : ∀ n ∈ ys, I64 n) (hrx : na * 8 ≤ 281474976710656) (hry : nb * 8 ≤ 281474976710656)
    (w : World) (hc : w.cell? ⟨b, 0, none⟩ = some (vi p)) (hsx : SL w A xs) (hsy : SL w B ys) :
    Calls Tryd.prog 16 #[.pointer (some ⟨b, 0, none⟩), .slice A na ca, .slice B nb cb] w fun e w' => e = .returned (vi (distI p xs ys : Nat)) ∧ ∃ k, w' = w.drewN k := by
  obtain ⟨D, hD⟩ : ∃ D, D = distI p xs ys := ⟨_, rfl⟩
  rw [← hD]
  unfold distI at hD
  rw [hna, hnb] at hD
  have HD := Lib.hid hD
  have HNA := Lib.hid hna
  have HNB := Lib.hid hnb
  clear hD hna hnb
  have hcase : na < nb ∨ nb < na ∨ na = nb := by omega
  rcases hcase with hlt | hlt | heq
  · obtain ⟨d, hd⟩ : ∃ d, d = nb - na := ⟨_, rfl⟩
    obtain ⟨n, hn⟩ : ∃ n, n = na := ⟨_, rfl⟩
    have hD2 : D = d + diffN n (co (els p xs)) (co (els p ys)) := by rw [HD.out, hd, hn, Nat.max_eq_right (by omega), Nat.min_eq_left (by omega)]
    have hdI : (d : Int) = (nb : Int) - na := by omega
    obtain rfl : n = na := hn
    have HD2 := Lib.hid hD2
    have HDI := Lib.hid hdI
    have hd9 : d * 8 ≤ 281474976710656 := by omega
    clear hD2 hd hdI
    go_enter Tryd.func16, Tryd.ntmps16
    go_wp2
    go_loopw [7, 25] (fun v i wr => DistRel p xs ys d n w v i wr) (fun _ i _ => n - (intOf i).toNat)
    case atStart => exact ⟨0, 0, Nat.zero_le _, rfl, by rw [← HDI.out]; rfl, rfl⟩
    case round =>
      obtain ⟨k, j, hk, rfl, rfl, rfl⟩ := hrel
      by_cases hkn : k < n
      · have hkx : k < xs.length := by rw [HNA.out]; omega
        have hky : k < ys.length := by rw [HNB.out]; omega
        obtain ⟨ad, rfl, _, hc1⟩ := (hsx.drewN j).at_ hkx
        obtain ⟨bd, rfl, _, hc2⟩ := (hsy.drewN j).at_ hky
        rw [World.cell?_drewN] at hc1 hc2
        have ix := hxs _ (List.getElem_mem hkx)
        have iy := hys _ (List.getElem_mem hky)
        have hcx : co (els p xs) k = el p xs[k] := by rw [co_of_lt (by simpa using hkx)]; simp
        have hcy : co (els p ys) k = el p ys[k] := by rw [co_of_lt (by simpa using hky)]; simp
        obtain ⟨x, hx⟩ : ∃ x, x = xs[k] := ⟨_, rfl⟩
        obtain ⟨y, hy⟩ : ∃ y, y = ys[k] := ⟨_, rfl⟩
        rw [← hx] at hc1 ix hcx
        rw [← hy] at hc2 iy hcy
        have hds := diffN_succ k (co (els p xs)) (co (els p ys))
        rw [hcx, hcy] at hds
        have hle := diffN_le k (co (els p xs)) (co (els p ys))
        obtain ⟨E, hE⟩ : ∃ E, E = diffN k (co (els p xs)) (co (els p ys)) := ⟨_, rfl⟩
        rw [← hE] at hds hle ⊢
        have i1 : (0 : Int) ≤ k := by omega
        have i2 : (k : Int) < n := by omega
        have i3 : (k : Int) < nb := by omega
        clear hx hy hcx hcy hE
        by_cases hxy : el p x = el p y
        · have t2 : (fv (el p x) != fv (el p y)) = false := by rw [hxy]; simp
          rw [if_pos hxy] at hds
          have HDS := Lib.hid hds
          clear hds hxy
          go_wp2
          go_quiet ((go_at_call 63; exact quiet_eq2 (of_elq p hp2 b _ (by first | exact ix | exact iy) _ (by exact hc))))
          go_wp2
          go_roundw
          case rel => exact ⟨k + 1, _, by omega, by go_num, by rw [HDS.out]; rfl, rfl⟩
          case measure => simp [intOf]; omega
        · have t2 : (fv (el p x) != fv (el p y)) = true := by rw [bne_iff_ne]; exact fun h => hxy (fv_inj h)
          rw [if_neg hxy] at hds
          have HDS := Lib.hid hds
          clear hds hxy
          go_wp2
          go_quiet ((go_at_call 63; exact quiet_eq2 (of_elq p hp2 b _ (by first | exact ix | exact iy) _ (by exact hc))))
          go_wp2
          go_roundw
          case rel => exact ⟨k + 1, _, by omega, by go_num, by rw [HDS.out]; go_num, rfl⟩
          case measure => simp [intOf]; omega
      · obtain rfl : k = n := by omega
        rw [← HD2.out]
        go_wp2
        go_ret
        exact ⟨rfl, _, rfl⟩
  · obtain ⟨d, hd⟩ : ∃ d, d = na - nb := ⟨_, rfl⟩
    obtain ⟨n, hn⟩ : ∃ n, n = nb := ⟨_, rfl⟩
    have hD2 : D = d + diffN n (co (els p xs)) (co (els p ys)) := by rw [HD.out, hd, hn, Nat.max_eq_left (by omega), Nat.min_eq_right (by omega)]
    have hdI : (d : Int) = (na : Int) - nb := by omega
    obtain rfl : n = nb := hn
    have HD2 := Lib.hid hD2
    have HDI := Lib.hid hdI
    have hd9 : d * 8 ≤ 281474976710656 := by omega
    clear hD2 hd hdI
    go_enter Tryd.func16, Tryd.ntmps16
    go_wp2
    go_loopw [7, 25] (fun v i wr => DistRel p xs ys d n w v i wr) (fun _ i _ => n - (intOf i).toNat)
    case atStart => exact ⟨0, 0, Nat.zero_le _, rfl, by rw [← HDI.out]; rfl, rfl⟩
    case round =>
      obtain ⟨k, j, hk, rfl, rfl, rfl⟩ := hrel
      by_cases hkn : k < n
      · have hkx : k < xs.length := by rw [HNA.out]; omega
        have hky : k < ys.length := by rw [HNB.out]; omega
        obtain ⟨ad, rfl, _, hc1⟩ := (hsx.drewN j).at_ hkx
        obtain ⟨bd, rfl, _, hc2⟩ := (hsy.drewN j).at_ hky
        rw [World.cell?_drewN] at hc1 hc2
        have ix := hxs _ (List.getElem_mem hkx)
        have iy := hys _ (List.getElem_mem hky)
        have hcx : co (els p xs) k = el p xs[k] := by rw [co_of_lt (by simpa using hkx)]; simp
        have hcy : co (els p ys) k = el p ys[k] := by rw [co_of_lt (by simpa using hky)]; simp
        obtain ⟨x, hx⟩ : ∃ x, x = xs[k] := ⟨_, rfl⟩
        obtain ⟨y, hy⟩ : ∃ y, y = ys[k] := ⟨_, rfl⟩
        rw [← hx] at hc1 ix hcx
        rw [← hy] at hc2 iy hcy
        have hds := diffN_succ k (co (els p xs)) (co (els p ys))
        rw [hcx, hcy] at hds
        have hle := diffN_le k (co (els p xs)) (co (els p ys))
        obtain ⟨E, hE⟩ : ∃ E, E = diffN k (co (els p xs)) (co (els p ys)) := ⟨_, rfl⟩
        rw [← hE] at hds hle ⊢
        have i1 : (0 : Int) ≤ k := by omega
        have i2 : (k : Int) < n := by omega
        have i3 : (k : Int) < na := by omega
        clear hx hy hcx hcy hE
        by_cases hxy : el p x = el p y
        · have t2 : (fv (el p x) != fv (el p y)) = false := by rw [hxy]; simp
          rw [if_pos hxy] at hds
          have HDS := Lib.hid hds
          clear hds hxy
          go_wp2
          go_quiet ((go_at_call 63; exact quiet_eq2 (of_elq p hp2 b _ (by first | exact ix | exact iy) _ (by exact hc))))
          go_wp2
          go_roundw
          case rel => exact ⟨k + 1, _, by omega, by go_num, by rw [HDS.out]; rfl, rfl⟩
          case measure => simp [intOf]; omega
        · have t2 : (fv (el p x) != fv (el p y)) = true := by rw [bne_iff_ne]; exact fun h => hxy (fv_inj h)
          rw [if_neg hxy] at hds
          have HDS := Lib.hid hds
          clear hds hxy
          go_wp2
          go_quiet ((go_at_call 63; exact quiet_eq2 (of_elq p hp2 b _ (by first | exact ix | exact iy) _ (by exact hc))))
          go_wp2
          go_roundw
          case rel => exact ⟨k + 1, _, by omega, by go_num, by rw [HDS.out]; go_num, rfl⟩
          case measure => simp [intOf]; omega
      · obtain rfl : k = n := by omega
        rw [← HD2.out]
        go_wp2
        go_ret
        exact ⟨rfl, _, rfl⟩
  · obtain rfl : na = nb := heq
    obtain ⟨d, hd⟩ : ∃ d, d = 0 := ⟨_, rfl⟩
    obtain ⟨n, hn⟩ : ∃ n, n = na := ⟨_, rfl⟩
    have hD2 : D = d + diffN n (co (els p xs)) (co (els p ys)) := by rw [HD.out, hd, hn, Nat.max_self, Nat.min_self, Nat.sub_self]
    have hdI : (d : Int) = 0 := by omega
    obtain rfl : n = na := hn
    have HD2 := Lib.hid hD2
    have HDI := Lib.hid hdI
    have hd9 : d * 8 ≤ 281474976710656 := by omega
    clear hD2 hd hdI
    go_enter Tryd.func16, Tryd.ntmps16
    go_wp2
    go_loopw [7, 25] (fun v i wr => DistRel p xs ys d n w v i wr) (fun _ i _ => n - (intOf i).toNat)
    case atStart => exact ⟨0, 0, Nat.zero_le _, rfl, by rw [← HDI.out]; rfl, rfl⟩
    case round =>
      obtain ⟨k, j, hk, rfl, rfl, rfl⟩ := hrel
      by_cases hkn : k < n
      · have hkx : k < xs.length := by rw [HNA.out]; omega
        have hky : k < ys.length := by rw [HNB.out]; omega
        obtain ⟨ad, rfl, _, hc1⟩ := (hsx.drewN j).at_ hkx
        obtain ⟨bd, rfl, _, hc2⟩ := (hsy.drewN j).at_ hky
        rw [World.cell?_drewN] at hc1 hc2
        have ix := hxs _ (List.getElem_mem hkx)
        have iy := hys _ (List.getElem_mem hky)
        have hcx : co (els p xs) k = el p xs[k] := by rw [co_of_lt (by simpa using hkx)]; simp
        have hcy : co (els p ys) k = el p ys[k] := by rw [co_of_lt (by simpa using hky)]; simp
        obtain ⟨x, hx⟩ : ∃ x, x = xs[k] := ⟨_, rfl⟩
        obtain ⟨y, hy⟩ : ∃ y, y = ys[k] := ⟨_, rfl⟩
        rw [← hx] at hc1 ix hcx
        rw [← hy] at hc2 iy hcy
        have hds := diffN_succ k (co (els p xs)) (co (els p ys))
        rw [hcx, hcy] at hds
        have hle := diffN_le k (co (els p xs)) (co (els p ys))
        obtain ⟨E, hE⟩ : ∃ E, E = diffN k (co (els p xs)) (co (els p ys)) := ⟨_, rfl⟩
        rw [← hE] at hds hle ⊢
        have i1 : (0 : Int) ≤ k := by omega
        have i2 : (k : Int) < n := by omega
        clear hx hy hcx hcy hE
        by_cases hxy : el p x = el p y
        · have t2 : (fv (el p x) != fv (el p y)) = false := by rw [hxy]; simp
          rw [if_pos hxy] at hds
          have HDS := Lib.hid hds
          clear hds hxy
          go_wp2
          go_quiet ((go_at_call 63; exact quiet_eq2 (of_elq p hp2 b _ (by first | exact ix | exact iy) _ (by exact hc))))
          go_wp2
          go_roundw
          case rel => exact ⟨k + 1, _, by omega, by go_num, by rw [HDS.out]; rfl, rfl⟩
          case measure => simp [intOf]; omega
        · have t2 : (fv (el p x) != fv (el p y)) = true := by rw [bne_iff_ne]; exact fun h => hxy (fv_inj h)
          rw [if_neg hxy] at hds
          have HDS := Lib.hid hds
          clear hds hxy
          go_wp2
          go_quiet ((go_at_call 63; exact quiet_eq2 (of_elq p hp2 b _ (by first | exact ix | exact iy) _ (by exact hc))))
          go_wp2
          go_roundw
          case rel => exact ⟨k + 1, _, by omega, by go_num, by rw [HDS.out]; go_num, rfl⟩
          case measure => simp [intOf]; omega
      · obtain rfl : k = n := by omega
        rw [← HD2.out]
        go_wp2
        go_ret
        exact ⟨rfl, _, rfl⟩
end Go.Proofs.YtkhkoeibigpdnaaDoor

/- Walks: powers, Coefficients, code.Is. -/
set_option linter.unusedVariables false
namespace Go.Proofs.YtkhkoeibigpdnaaDoor
open Go.RowKit Zp

theorem mul_one_ {p : Nat} [NeZero p] (a : Fin p) : a * 1 = a := by grind
theorem mul_assoc_ {p : Nat} [NeZero p] (a b c : Fin p) : a * b * c = a * (b * c) := by grind

/-- x, x y, x y^2 .. -/
def powL {p : Nat} [NeZero p] (x y : Fin p) (n : Nat) : List (Fin p) := tab n (fun i => x * pw y i)
theorem powL_length {p : Nat} [NeZero p] (x y : Fin p) (n : Nat) : (powL x y n).length = n := tab_length _ _
def PowRel {p : Nat} [NeZero p] (x y : Fin p) (n : Nat) (w : World) (v c : Value) (wr : World) : Prop := ∃ k g : Nat, k ≤ n ∧ c = vi (fv (x * pw y k)) ∧ v = .slice (some ⟨g, 0, none⟩) k n ∧ Own wr w.heap.size v (fvs (powL x y k)) ∧ Below w.heap.size w wr
def lenOf : Value → Nat
  | .slice _ n _ => n
  | _ => 0

set_option maxRecDepth 100000 in
set_option maxHeartbeats 1000000 in
theorem powers_any (p S D b : Nat) [NeZero p] (n : Nat) (s : Fin p) (x y : Fin p) (w : World) (hD : Dom w S D b p n s) :
    Calls Tryd.prog 68 #[.pointer (some ⟨D, 0, none⟩), vi (fv x), vi (fv y)] w fun e w' => Made (fvs (powL x y n)) w e w' := by
  have hp2 := hD.fld.max
  have hn1 := hD.size.le
  have hd1 := hD.c1
  have hDle := hD.le
  have hmk := make_ints0 n (by omega)
  go_enter Tryd.func68, Tryd.ntmps68
  go_wp2
  go_loopw [7, 8] (fun v c wr => PowRel x y n w v c wr) (fun v _ _ => n - lenOf v)
  case atStart => exact ⟨0, w.heap.size, Nat.zero_le _, by rw [pw_zero, mul_one_], rfl, own_made0 w _ n (Nat.le_refl _) (by omega), (Below.refl _ _).alloc (Nat.le_refl _) _⟩
  case round =>
    obtain ⟨k, g, hk, rfl, rfl, hown, hb⟩ := hrel
    have hDr := hD.below hb hDle
    have hd1 := hDr.c1
    have hd0 := hDr.c0
    have hcb := hDr.fld.c0
    by_cases hkn : k < n
    · have hlk : (fvs (powL x y k)).length = k := by simp [powL_length]
      have hts : powL x y (k + 1) = powL x y k ++ [x * pw y k] := tab_succ _ _
      have hX1 : x * pw y k * y = x * pw y (k + 1) := by rw [pw_succ]; exact mul_assoc_ _ _ _
      obtain ⟨X, hX⟩ : ∃ X, X = x * pw y k := ⟨_, rfl⟩
      rw [← hX] at hts hX1 ⊢
      obtain ⟨X2, hX2⟩ : ∃ X2, X2 = x * pw y (k + 1) := ⟨_, rfl⟩
      rw [← hX2] at hX1
      have hmul := fun W hc => mul_any p hp2 b (fv X) (fv y) (i64_fv _ hp2) (i64_fv _ hp2) W hc
      rw [el_fv, el_fv, hX1] at hmul
      have HMUL := Lib.hid hmul
      have HTS := Lib.hid hts
      have HLK := Lib.hid hlk
      have HX2 := Lib.hid hX2
      clear hmul hts hlk hX hX1 hX2
      have hgl := (hown.lt g rfl).1
      have hDne : some D ≠ some g := by intro e; injection e with e; have := hD.lt; omega
      have hbne : some b ≠ some g := by intro e; injection e with e; have := hD.fld.lt; omega
      go_wp2_with (at_builtin; refine wpList_app1_fits wr (fv X) rfl _ _ rfl w.heap.size g k n _ rfl rfl hown HLK.out.symm hkn ?_; intro w1 hown1 hg; have hd0' := hg.cell hd0 hDne; have hcb' := hg.cell hcb hbne)
      refine (HMUL.out _ hcb').mono ?_
      rintro e w' ⟨rfl, k5, rfl⟩
      go_wp2
      go_roundw
      case rel => exact ⟨k + 1, g, by omega, by rw [HX2.out], rfl, by rw [HTS.out, fvs, List.map_append]; exact hown1, below_drewN (hb.grown hg hb.size (fun j hj => by injection hj with hj; subst hj; exact hgl)) k5⟩
      case measure => simp [lenOf]; omega
    · obtain rfl : k = n := by omega
      go_wp2
      go_ret
      exact ⟨_, rfl, hown, hb⟩
theorem coefs_bad (D n : Nat) (A : Option Addr) (m cap : Nat) (h : m ≠ n) (w : World) (hc : w.cell? ⟨D, 1, none⟩ = some (vi n)) :
    Calls Tryd.prog 32 #[.pointer (some ⟨D, 0, none⟩), .slice A m cap] w fun e w' => e = .returned (.tuple #[.slice none 0 0, .iface 107 (.int .i64 2)]) ∧ w = w' := by
  have t1 : ((m : Int) != (n : Int)) = true := by rw [bne_iff_ne]; omega
  clear h
  go_enter Tryd.func32, Tryd.ntmps32
  go_wp2
  go_ret2
  exact ⟨rfl, rfl⟩

/-- a word of the call's own, and no error -/
def MadeC (xs : List Int) (w : World) (e : Ending) (w' : World) : Prop := ∃ v, e = .returned (.tuple #[v, .nilIface]) ∧ Own w' w.heap.size v xs ∧ Below w.heap.size w w'
/-- behind spread -/
def Cut3 (p n : Nat) [NeZero p] (r : Fin p) (l : List (Fin p)) (w : World) (v : Value) (wx : World) : Prop := ∃ ys, Own wx w.heap.size v ys ∧ (∀ y ∈ ys, I64 y) ∧ els p ys = dft r n l ∧ Below w.heap.size w wx
/-- behind powers -/
def Cut4 (p n : Nat) [NeZero p] (x y : Fin p) (w2 : World) (v ln c : Value) (wx : World) : Prop := ∃ g3 cc, v = .slice (some ⟨g3, 0, none⟩) n cc ∧ ln = vi n ∧ c = .int .i64 0 ∧ Own wx w2.heap.size (.slice (some ⟨g3, 0, none⟩) n cc) (fvs (powL x y n)) ∧ w2.heap.size ≤ g3 ∧ Below w2.heap.size w2 wx

def CoefRel (p n : Nat) [NeZero p] (r x y : Fin p) (l : List (Fin p)) (w : World) (g c : Nat) (i : Value) (wr : World) : Prop := ∃ (k : Nat) (ys : List Int), k ≤ n ∧ i = vi k ∧ ys.length = n ∧ Own wr w.heap.size (.slice (some ⟨g, 0, none⟩) n c) ys ∧ (∀ y ∈ ys, I64 y) ∧
  (∀ j, j < n → co (els p ys) j = if j < k then co (dft r n l) j * (x * pw y j) else co (dft r n l) j) ∧ Below w.heap.size w wr

set_option maxRecDepth 100000 in
set_option maxHeartbeats 1000000 in
theorem coefs_any (p S D b : Nat) [NeZero p] (n : Nat) (s : Fin p) (A : Option Addr) (cap : Nat) (xs : List Int) (hml : xs.length = n) (hxs : ∀ x ∈ xs, I64 x) (w : World) (hD : Dom w S D b p n s) (hs : SL w A xs) :
    Calls Tryd.prog 32 #[.pointer (some ⟨D, 0, none⟩), .slice A n cap] w fun e w' => MadeC (fvs (trimL (coefL s (rootI p n) n (els p xs)))) w e w' := by
  have hp1 := hD.fld.two
  have hp2 := hD.fld.max
  have hpr := hD.fld.prime
  have hn0 := hD.size.pos
  have hn1 := hD.size.le
  have hDle := hD.le
  have hd0 := hD.c0
  have hd1 := hD.c1
  have hd3 := hD.c3
  have hcb := hD.fld.c0
  have hDl : D < w.heap.size := Nat.lt_of_lt_of_le hD.lt hD.le
  have hbl : b < w.heap.size := Nat.lt_of_lt_of_le hD.fld.lt hD.le
  have t1 : ((n : Int) != (n : Int)) = false := by simp
  have hord := ord_inv hpr (rootI_ord hpr hn0 hD.size.2) hn0
  have hcond := root_cond hpr hD.size hord
  obtain ⟨R, hR⟩ : ∃ R, R = rootI p n := ⟨_, rfl⟩
  rw [← hR] at hd3 hcond ⊢
  have hclone := fun k => clone_any A n cap xs hml (by omega) (w.drewN k) (hs.drewN k)
  have HCLONE := Lib.hid hclone
  have hsp : SpreadSpec p S D b n s n := by
    obtain ⟨⟨kk, hkk, hnk⟩, _⟩ := hD.size
    have h := spread_any p S D b n s kk hkk
    rwa [← hnk] at h
  have HSP := Lib.hid hsp
  have HML := Lib.hid hml
  have HCOND := Lib.hid hcond
  have HR := Lib.hid hR
  clear hclone hord hcond hsp hml hR
  go_enter Tryd.func32, Tryd.ntmps32
  go_upto_region 3 with (fail)
  go_cut [6] (fun v wx => Cut3 p n (Zp.inv R) (els p xs) w v wx)
  case first =>
    go_region_held3 (fun w' => w'.cell? ⟨D, 0, none⟩ = some (.pointer (some ⟨b, 0, none⟩)) ∧ w'.cell? ⟨D, 3, none⟩ = some (vi (fv R)) ∧ w'.cell? ⟨b, 0, none⟩ = some (vi p)) (first | exact ⟨hd0, hd3, hcb⟩ | exact ⟨(hb1.cell (p := ⟨D, 0, none⟩) hDl).trans hd0, (hb1.cell (p := ⟨D, 3, none⟩) hDl).trans hd3, (hb1.cell (p := ⟨b, 0, none⟩) hbl).trans hcb⟩ | exact ⟨(hbel2.cell (p := ⟨D, 0, none⟩) hDl).trans hd0, (hbel2.cell (p := ⟨D, 3, none⟩) hDl).trans hd3, (hbel2.cell (p := ⟨b, 0, none⟩) hbl).trans hcb⟩) ((first | (go_at_call 77; refine (HCLONE.out _).mono ?_; rintro e w1 ⟨v1, rfl, hown1, hb1⟩) | (go_at_call 78; refine (inv_any p hp1 hp2 b _ (i64_fv _ hp2) _ (by first | exact hcb | exact (hb1.cell (p := ⟨b, 0, none⟩) hbl).trans hcb)).mono ?_; rintro e w' ⟨rfl, rfl⟩) | (go_at_call 75; refine (HSP.out _ w.heap.size _ xs _ HML.out hxs (i64_fv _ hp2) (by rw [el_fv, el_fv]; exact HCOND.out) ((hD.drewN _).below hb1 hDle) hown1 hb1.size).mono ?_; rintro e w2 ⟨v2, ys, rfl, hown2, hys, hysd, _, _, hb2⟩; have hbel2 : Below w.heap.size w w2 := ((below_drewN (Below.refl _ w) _).trans hb1).trans (hb2.mono hb1.size))))
    all_goals go_wp2_with fail
    all_goals go_meet
    all_goals (rw [el_fv, el_fv] at hysd; exact ⟨ys, hown2, hys, hysd, hbel2⟩)
  case rest =>
    obtain ⟨ys, hown2, hys, hysd, hb2⟩ := hcut
    have hysl : ys.length = n := by have := congrArg List.length hysd; rw [dft_length] at this; simpa using this
    obtain ⟨g, c, hv, hg1, hg2⟩ := hown2.block (by omega)
    rw [hysl] at hv
    subst hv
    obtain ⟨w2, hw2⟩ : ∃ W, W = wc := ⟨_, rfl⟩
    subst hw2
    have hD2 := hD.below hb2 hDle
    have hd0 := hD2.c0
    have hd1 := hD2.c1
    have hd2 := hD2.c2
    have hcb2 := hD2.fld.c0
    have hnI : I64 (n : Int) := ⟨by omega, by omega⟩
    have hDl2 : D < w2.heap.size := Nat.lt_of_lt_of_le hDl hb2.size
    have hbl2 : b < w2.heap.size := Nat.lt_of_lt_of_le hbl hb2.size
    have HYS := Lib.hid hysd
    have HYL := Lib.hid hysl
    clear hysd hysl hd3 hcb
    have hpw := fun k => powers_any p S D b n s (Zp.inv (el p (n : Int))) (Zp.inv (el p (fv s))) (w2.drewN k) (hD2.drewN k)
    have HPW := Lib.hid hpw
    clear hpw
    go_upto_region 4 with (fail)
    go_cut [49, 50, 51] (fun v ln c wx => Cut4 p n (Zp.inv (el p (n : Int))) (Zp.inv (el p (fv s))) w2 v ln c wx)
    case first =>
      go_region_held3 (fun w' => w'.cell? ⟨D, 0, none⟩ = some (.pointer (some ⟨b, 0, none⟩)) ∧ w'.cell? ⟨D, 1, none⟩ = some (vi n) ∧ w'.cell? ⟨D, 2, none⟩ = some (vi (fv s))) (first | exact ⟨hd0, hd1, hd2⟩ | exact ⟨(hb3.cell (p := ⟨D, 0, none⟩) hDl2).trans hd0, (hb3.cell (p := ⟨D, 1, none⟩) hDl2).trans hd1, (hb3.cell (p := ⟨D, 2, none⟩) hDl2).trans hd2⟩) ((first | (go_at_call 78; refine (inv_any p hp1 hp2 b _ (by first | exact hnI | exact i64_fv _ hp2) _ (by exact hcb2)).mono ?_; rintro e w' ⟨rfl, rfl⟩) | (go_at_call 68; refine (HPW.out _).mono ?_; rintro e w3 ⟨v3, rfl, hown3, hb3⟩; obtain ⟨g3, c3, hv3, hg3, _⟩ := hown3.block (by simp [powL_length]; omega); rw [List.length_map, powL_length] at hv3; subst hv3)))
      all_goals go_wp2_with fail
      all_goals go_meet
      all_goals exact ⟨g3, c3, rfl, rfl, rfl, hown3, hg3, (below_drewN (Below.refl _ w2) _).trans hb3⟩
    case rest =>
      obtain ⟨g3, c3, rfl, rfl, rfl, hown3, hg3, hb3⟩ := hcut
      have hlp : (fvs (powL (Zp.inv (el p (n : Int))) (Zp.inv (el p (fv s))) n)).length = n := by rw [List.length_map, powL_length]
      have HLP := Lib.hid hlp
      clear hlp
      have hoa := hown2.below hb3
      have hbw := hb2.trans (hb3.mono hb2.size)
      go_wp2_with fail
      go_loopw [51] (fun i wr => CoefRel p n (Zp.inv R) (Zp.inv (el p (n : Int))) (Zp.inv (el p (fv s))) (els p xs) w g c i wr ∧ Own wr w2.heap.size (.slice (some ⟨g3, 0, none⟩) n c3) (fvs (powL (Zp.inv (el p (n : Int))) (Zp.inv (el p (fv s))) n))) (fun i _ => n - (intOf i).toNat)
      case atStart => exact ⟨⟨0, ys, Nat.zero_le _, rfl, HYL.out, hoa, hys, fun j _ => by rw [HYS.out, if_neg (by omega)], hbw⟩, hown3⟩
      case round =>
        obtain ⟨⟨k, zs, hk, rfl, hzl, hoz, hzs, hzc, hbz⟩, hop⟩ := hrel
        have HZL := Lib.hid hzl
        have HZC := Lib.hid hzc
        clear hzl hzc
        have hDr := hD.below hbz hDle
        have hd0 := hDr.c0
        have hcb := hDr.fld.c0
        by_cases hkn : k < n
        · have hkz : k < zs.length := by rw [HZL.out]; exact hkn
          have hca := hoz.at_ HZL.out.symm k hkz
          have hfa := hoz.frozen_ HZL.out.symm k
          have hcp := hop.at_ HLP.out.symm k (by rw [HLP.out]; exact hkn)
          have iz := hzs _ (List.getElem_mem hkz)
          have e1 : (fvs (powL (Zp.inv (el p (n : Int))) (Zp.inv (el p (fv s))) n))[k]'(by rw [HLP.out]; exact hkn) = fv (Zp.inv (el p (n : Int)) * pw (Zp.inv (el p (fv s))) k) := by
            rw [List.getElem_map]; exact congrArg fv (tab_get _ _ _ _)
          rw [e1] at hcp
          have hzk : co (els p zs) k = el p zs[k] := by rw [co_of_lt (by simpa using hkz)]; simp
          obtain ⟨z, hz⟩ : ∃ z, z = zs[k] := ⟨_, rfl⟩
          rw [← hz] at hca iz hzk
          obtain ⟨X, hX⟩ : ∃ X, X = Zp.inv (el p (n : Int)) * pw (Zp.inv (el p (fv s))) k := ⟨_, rfl⟩
          rw [← hX] at hcp
          obtain ⟨Z, hZ⟩ : ∃ Z, Z = el p z * X := ⟨_, rfl⟩
          have hmul := fun W hc => mul_any p hp2 b z (fv X) iz (i64_fv _ hp2) W hc
          rw [el_fv, ← hZ] at hmul
          have hnext : ∀ j, j < n → co (els p (zs.set k (fv Z))) j = if j < k + 1 then co (dft (Zp.inv R) n (els p xs)) j * (Zp.inv (el p (n : Int)) * pw (Zp.inv (el p (fv s))) j) else co (dft (Zp.inv R) n (els p xs)) j := by
            intro j hj
            rw [els, List.map_set, el_fv, co_set _ _ _ (by simpa using hkz)]
            have h1 := HZC.out j hj
            by_cases he : j = k
            · subst he
              rw [if_neg (by omega)] at h1
              rw [if_pos rfl, if_pos (by omega), hZ, ← hzk, h1, hX]
            · rw [if_neg he, h1]
              by_cases hlt : j < k
              · rw [if_pos hlt, if_pos (by omega)]
              · rw [if_neg hlt, if_neg (by omega)]
          have hall : ∀ y ∈ zs.set k (fv Z), I64 y := by
            intro y hy
            rcases List.mem_or_eq_of_mem_set hy with h | h
            · exact hzs y h
            · rw [h]; exact i64_fv _ hp2
          have HMUL := Lib.hid hmul
          have HNEXT := Lib.hid hnext
          have HALL := Lib.hid hall
          have i1 : (0 : Int) ≤ k := by omega
          have i2 : (k : Int) < n := by omega
          have hmx : Tryd.prog.follows .mixedOrders = true := by kernel_rfl
          clear hmul hnext hall hZ hX hz hzk e1
          go_wp2
          refine wp_region_quiet_tail 13 hmx (by kernel_rfl) ?_
          simp only [List.take_succ_cons, List.take_zero, List.drop_succ_cons, List.drop_zero]
          repeat (quiet_step ((go_at_call 70; exact Calls.quiet_of (HMUL.out _ (by exact hcb)))))
          refine wpQuiet_nil ?_
          intro _ hw'
          obtain ⟨nq1, hw''⟩ := hw'
          subst hw''
          go_wp2
          go_roundw
          case rel =>
            refine ⟨⟨k + 1, zs.set k (fv Z), by omega, by go_num, by rw [List.length_set]; exact HZL.out, (hoz.drewN nq1).store HZL.out.symm k _, HALL.out, HNEXT.out, (below_drewN hbz nq1).setCell hg1 _⟩, (hop.drewN nq1).far (by simp only [Value.ownBlock, ne_eq, Option.some.injEq]; omega) _⟩
          case measure => simp [intOf]; omega
        · obtain rfl : k = n := by omega
          have hzz : els p zs = coefL s R k (els p xs) := by
            refine ext_co (by rw [coefL_length, List.length_map, HZL.out]) fun j hj => ?_
            rw [List.length_map, HZL.out] at hj
            rw [HZC.out j hj, if_pos hj, coefL, co_tab, if_pos hj, dft, co_tab, if_pos hj, el_fv]
          have hsz : SL wr (some ⟨g, 0, none⟩) zs := by
            obtain ⟨A1, c1, h1, h2⟩ := hoz.len
            injection h1 with h1 _ _
            rw [h1]; exact h2
          have hkc : k ≤ c := by
            obtain ⟨Ao, no, co_, hvo, _, hco_, _, _⟩ := hoz.shapeN
            injection hvo with _ hv1 hv2
            omega
          have ht := trim_any p hp2 b (some ⟨g, 0, none⟩) c zs hzs (by rw [HZL.out]; omega) (by rw [HZL.out]; omega) wr hcb hsz
          rw [HZL.out, hzz] at ht
          have HT := Lib.hid ht
          clear ht hzz
          go_wp2_with fail
          refine (HT.out).mono ?_
          rintro e w4 ⟨v4, rfl, hown4, hb4⟩
          go_wp2
          go_ret2
          exact ⟨v4, rfl, hown4.more hbz.size, hbz.trans (hb4.mono hbz.size)⟩
/-- is a list a codeword? A Bool behind a name -/
noncomputable def cwB (p n : Nat) [NeZero p] (s : Fin p) (k : Int) (xs : List Int) : Bool := decide ((1 ≤ k ∧ k ≤ n) ∧ xs.length = n ∧ ((trimL (coefL s (rootI p n) n (els p xs))).length : Int) ≤ k)
set_option maxHeartbeats 1000000 in
theorem is_any (p S D b : Nat) [NeZero p] (n : Nat) (s : Fin p) (k : Int) (A : Option Addr) (m cap : Nat) (xs : List Int) (hml : xs.length = m) (hxs : ∀ x ∈ xs, I64 x) (w : World) (hD : Dom w S D b p n s) (hs : SL w A xs) :
    Calls Tryd.prog 37 #[.pointer (some ⟨D, 0, none⟩), vi k, .slice A m cap] w fun e w' => SaysW (.bool (cwB p n s k xs)) w e w' := by
  have hmay := may_any D n k w hD.c1
  by_cases h1 : 1 ≤ k ∧ k ≤ n
  · rw [mayB_true h1] at hmay
    have HMAY := Lib.hid hmay
    by_cases h2 : m = n
    · have hc := coefs_any p S D b n s A cap xs (by rw [hml, h2]) hxs w hD hs
      rw [← h2] at hc
      obtain ⟨B, hB⟩ : ∃ B, B = cwB p n s k xs := ⟨_, rfl⟩
      have hBe : B = decide (((trimL (coefL s (rootI p n) n (els p xs))).length : Int) ≤ k) := by
        rw [hB]; unfold cwB; rw [decide_eq_decide]
        exact ⟨fun h => h.2.2, fun h => ⟨h1, by rw [hml, h2], h⟩⟩
      rw [← hB]
      obtain ⟨l, hl⟩ : ∃ l, l = trimL (coefL s (rootI p m) m (els p xs)) := ⟨_, rfl⟩
      rw [← hl] at hc
      rw [← h2, ← hl] at hBe
      have HC := Lib.hid hc
      have HBE := Lib.hid hBe
      clear hc hmay hB hBe hl h1 h2 hml
      go_enter Tryd.func37, Tryd.ntmps37
      go_wp2_with fail
      refine (HMAY.out).mono ?_
      rintro e w' ⟨rfl, rfl⟩
      go_wp2_with fail
      refine (HC.out).mono ?_
      rintro e w1 ⟨v, rfl, hown, hb⟩
      obtain ⟨A1, n1, c1, rfl, hl1, _, _, _⟩ := hown.shapeN
      rw [List.length_map] at hl1
      have hfin : B = decide ((n1 : Int) ≤ k) := by rw [HBE.out, hl1]
      have HFIN := Lib.hid hfin
      clear hfin hl1
      by_cases h3 : (n1 : Int) ≤ k
      · have hf : B = true := by rw [HFIN.out]; exact decide_eq_true h3
        have HF := Lib.hid hf
        clear hf
        go_wp2
        go_ret
        exact ⟨ret_bool HF.out.symm, hb⟩
      · have hf : B = false := by rw [HFIN.out]; exact decide_eq_false h3
        have t3 : decide ((n1 : Int) ≤ k) = false := decide_eq_false h3
        have HF := Lib.hid hf
        clear hf
        go_wp2
        go_ret
        exact ⟨ret_bool HF.out.symm, hb⟩
    · have hc := coefs_bad D n A m cap h2 w hD.c1
      have hB : cwB p n s k xs = false := decide_eq_false (fun h => h2 (by rw [← hml]; exact h.2.1))
      have HC := Lib.hid hc
      have HB := Lib.hid hB
      clear hc hmay hB h1 h2 hml
      go_enter Tryd.func37, Tryd.ntmps37
      go_wp2_with fail
      refine (HMAY.out).mono ?_
      rintro e w' ⟨rfl, rfl⟩
      go_wp2_with fail
      refine (HC.out).mono ?_
      rintro e w' ⟨rfl, rfl⟩
      go_wp2
      go_ret
      exact ⟨ret_bool HB.out.symm, Below.refl _ _⟩
  · rw [mayB_false h1] at hmay
    have hB : cwB p n s k xs = false := decide_eq_false (fun h => h1 h.1)
    have HMAY := Lib.hid hmay
    have HB := Lib.hid hB
    clear hmay hB h1 hml
    go_enter Tryd.func37, Tryd.ntmps37
    go_wp2_with fail
    refine (HMAY.out).mono ?_
    rintro e w' ⟨rfl, rfl⟩
    go_wp2
    go_ret
    exact ⟨ret_bool HB.out.symm, Below.refl _ _⟩
end Go.Proofs.YtkhkoeibigpdnaaDoor

/- A slice of ints that came in. -/
set_option linter.unusedVariables false
namespace Go.Proofs.YtkhkoeibigpdnaaDoor
open Go.RowKit

/-- '.slice A n c' came in and reads as xs -/
structure ArgS (w : World) (A : Option Addr) (n c : Nat) (xs : List Int) : Prop where
  len : xs.length = n
  cap : n ≤ c
  i64 : ∀ x ∈ xs, I64 x
  reach : c * 8 ≤ 140737488351232
  sl : SL w A xs

theorem ArgS.nil (w : World) : ArgS w none 0 0 [] := ⟨rfl, Nat.le_refl _, by simp, by omega, SL.nil⟩
theorem i64_of_wf {n : Int} (h : (Lit.int .i64 n).wf = true) : I64 n := by
  simpa [Lit.wf, IntKind.min, IntKind.max, IntKind.signed, IntKind.bits] using h

theorem ArgS.mk_ {w : World} {a : Addr} {len cap : Nat} {zs : List Int} (hl : len ≤ cap) (hm : cap ≤ maxLen) (hz : zs.length = cap) (lt : ∀ q ∈ MemPlace.row a zs.length, q.block < w.heap.size)
    (hcell : ∀ i, i < zs.length → w.cell? (a.add i) = some (.int .i64 (zs.getD i 0))) (hwz : ∀ n ∈ zs, (Lit.int .i64 n).wf = true) (hb : cap * 8 ≤ 140737488351232) : ArgS w (some a) len cap (zs.take len) := by
  have hlen : (zs.take len).length = len := by rw [List.length_take, hz]; omega
  refine ⟨hlen, hl, fun x hx => i64_of_wf (hwz x (List.mem_of_mem_take hx)), hb, ?_⟩
  refine ⟨by simp, fun hn => ⟨a, rfl, ?_, fun j u hu => ?_⟩⟩
  · have h0 : 0 < zs.length := by rw [hlen] at hn; omega
    have hc0 := hcell 0 h0
    have : (a.add 0).block < w.heap.size := by
      false_or_by_contra
      rename_i hge
      rw [World.cell?, Array.getElem?_eq_none (by omega)] at hc0
      cases hc0
    rwa [block_of_add] at this
  · rw [List.getElem?_map] at hu
    cases hj : (zs.take len)[j]? with
    | none => rw [hj] at hu; cases hu
    | some x =>
      rw [hj] at hu
      injection hu with hu
      rw [List.getElem?_take] at hj
      split at hj
      · have hjl : j < zs.length := (List.getElem?_eq_some_iff.1 hj).1
        rw [hcell j hjl, ← hu]
        simp [List.getD_eq_getElem?_getD, hj]
      · cases hj

section
variable {w w' : World} {A : Option Addr} {n c : Nat} {xs : List Int}
theorem ArgS.below (h : ArgS w A n c xs) (hb : Below w.heap.size w w') : ArgS w' A n c xs := ⟨h.len, h.cap, h.i64, h.reach, h.sl.below hb⟩
theorem ArgS.r8 (h : ArgS w A n c xs) : xs.length * 8 ≤ 140737488351232 := by
  have := h.reach
  have := h.cap
  have := h.len
  omega
end
end Go.Proofs.YtkhkoeibigpdnaaDoor

/- The walk of the law DomainBack. -/
set_option linter.unusedVariables false
namespace Go.Proofs.YtkhkoeibigpdnaaDoor
open Go.RowKit Zp

/-- is there a domain? -/
def HasDom2 (p size t : Int) : Prop := HasField p ∧ ∃ n : Nat, size = n ∧ SizeOk p.toNat n ∧ ¬ t % p = 0
theorem made2_no (p size t : Int) (hp : I64 p) (hs : I64 size) (ht : I64 t) (h : ¬ HasDom2 p size t) (w : World) (hT : Typed w) :
    Calls Tryd.prog 18 #[vi p, vi size, vi t] w fun e w' => SaysW NoMade w e w' := by
  by_cases hF : HasField p
  · have h' : ¬ ∃ n : Nat, size = n ∧ SizeOk p.toNat n ∧ ¬ t % p = 0 := fun h2 => h ⟨hF, h2⟩
    obtain ⟨h3, hm, hpr⟩ := hF
    obtain ⟨q, rfl⟩ := Int.eq_ofNat_of_zero_le (a := p) (by omega)
    rw [Int.toNat_natCast] at hpr h'
    haveI := hpr.ne
    exact made2_nod q (by omega) (by omega) hpr size t hs ht h' w hT
  · exact made2_nof p size t hp hF w hT
theorem ints_sameH (A B : Option Addr) (n c m d : Nat) (xs ys : List Int) (hnx : xs.length = n) (hmy : ys.length = m) (he : xs = ys) (hn : n ≤ 9223372036854775807) (w : World) (hsx : SL w A xs) (hsy : SL w B ys) :
    Calls Tryd.prog 21 #[.slice A n c, .slice B m d] w fun e w' => e = .returned (.bool true) ∧ ∃ k, w' = w.drewN k := by
  subst hnx hmy
  have h := ints_any A B c d xs ys hn (by rw [← he]; exact hn) w hsx hsy
  rw [eqB_true he] at h
  exact h

set_option maxRecDepth 100000 in
set_option maxHeartbeats 2000000 in
theorem back_walk (w : World) (p : Int) (hp : I64 p) (size : Int) (hs : I64 size) (t : Int) (ht : I64 t) (A : Option Addr) (na ca : Nat) (xs : List Int) (ha : ArgS w A na ca xs) (hT : Typed w) :
    Calls Tryd.prog 6 #[vi p, vi size, vi t, .slice A na ca] w fun e w' => SaysW (.bool true) w e w' := by
  have hra := ha.r8
  rw [ha.len] at hra
  have HLA := Lib.hid ha.len
  by_cases hD : HasDom2 p size t
  · obtain ⟨⟨h3, hm, hpr⟩, n, rfl, hsz, h0⟩ := hD
    obtain ⟨q, rfl⟩ := Int.eq_ofNat_of_zero_le (a := p) (by omega)
    rw [Int.toNat_natCast] at hpr hsz
    haveI := hpr.ne
    have hqm : q ≤ 2147483647 := by omega
    have HM := Lib.hid (made2_yes q n (by omega) hqm hpr t ht hsz h0 w hT)
    have hn := hsz.le
    have hn1 := hsz.pos
    have hs0 : el q t ≠ 0 := fun h => h0 (el_eq_zero.1 h)
    have hord := rootI_ord hpr hsz.pos hsz.2
    by_cases hl : na = n
    · subst hl
      have hval : valL (el q t) (rootI q na) na (trimL (coefL (el q t) (rootI q na) na (els q xs))) = els q xs := by
        have h1 := valL_coefL hpr hn1 hsz.2 hord hs0 (l := els q xs) (by rw [List.length_map]; exact HLA.out)
        refine Eq.trans ?_ h1
        unfold valL
        congr 1
        funext j
        rw [ev_trim]
      have hcl : (trimL (coefL (el q t) (rootI q na) na (els q xs))).length ≤ na := by
        have := trimL_length_le (coefL (el q t) (rootI q na) na (els q xs))
        rw [coefL_length] at this; exact this
      have hco := fun D b S W hD hsW => coefs_any q S D b na (el q t) A ca xs HLA.out ha.i64 W hD hsW
      have htt := trimL_trim (coefL (el q t) (rootI q na) na (els q xs))
      generalize trimL (coefL (el q t) (rootI q na) na (els q xs)) = C at hval hcl hco htt
      have hvs := fun D b S B m c hlm hmn W hD hsW => values_n q S D b na (el q t) B m c (fvs C) hlm (i64_fvsR _ hqm) hmn W hD hsW
      simp only [els_fvs] at hvs
      rw [hval] at hvs
      have hal := fun W hsW => rall_n q hqm A na ca xs HLA.out ha.i64 hra W hsW
      have htr := fun B m c hlm hmr hmc W hsW => rtrim_n q hqm B m c (fvs C) hlm (i64_fvsR _ hqm) hmr hmc W hsW
      simp only [els_fvs] at htr
      rw [htt] at htr
      have HCO := Lib.hid hco
      have HVS := Lib.hid hvs
      have HAL := Lib.hid hal
      have HTR := Lib.hid htr
      have HCL := Lib.hid hcl
      clear hval hcl hco htt hvs hal htr hs0 hord h0 hpr hsz
      go_enter Tryd.func6, Tryd.ntmps6
      go_wp2_with fail
      refine (HM.out).mono ?_
      rintro e w1 ⟨b, D, rfl, hD, hb1⟩
      have sa1 := ha.sl.below hb1
      go_wp2_with fail
      have hba : Below w1.heap.size w1 (w1.alloc (.cells #[vi q, vi na, vi (fv (el q t)), vi (fv (rootI q na))] 31)) := (Below.refl _ _).alloc (Nat.le_refl _) _
      generalize w1.alloc (.cells #[vi q, vi na, vi (fv (el q t)), vi (fv (rootI q na))] 31) = w2 at hba ⊢
      have hD2 := hD.below hba hD.fld.le
      have sa2 := sa1.below hba
      have bw2 := hb1.trans (hba.mono hb1.size)
      clear hD sa1 hb1 hba
      refine (HCO.out D b _ w2 hD2 sa2).mono ?_
      rintro e w3 ⟨v3, rfl, hown3, hb3⟩
      have hD3 := hD2.below hb3 hD2.fld.le
      have sa3 := sa2.below hb3
      have bw3 := bw2.trans (hb3.mono bw2.size)
      obtain ⟨A3, n3, c3, rfl, hl3, hc3, hm3, sc3⟩ := hown3.shapeN
      have HL3 := Lib.hid hl3
      have hn3 : n3 ≤ na := by have := HCL.out; rw [List.length_map] at hl3; omega
      clear hown3 hl3 hD2 sa2 bw2 hb3
      go_wp2_with fail
      refine (HTR.out A3 n3 c3 HL3.out (by omega) hc3 _ sc3).mono ?_
      rintro e w4 ⟨v4, rfl, hown4, hb4⟩
      have hD4 := hD3.below hb4 hD3.fld.le
      have sa4 := sa3.below hb4
      have sc4 := sc3.below hb4
      have bw4 := bw3.trans (hb4.mono bw3.size)
      obtain ⟨A4, n4, c4, rfl, hl4, hc4, hm4, st4⟩ := hown4.shapeN
      have HL4 := Lib.hid hl4
      have hn4 : n4 ≤ na := by have := HCL.out; rw [List.length_map] at hl4; omega
      clear hown4 hl4 hD3 sa3 sc3 bw3 hb4
      go_wp2_with fail
      refine (ints_sameH A4 A3 n4 c4 n3 c3 _ _ HL4.out HL3.out rfl (by omega) _ st4 sc4).mono ?_
      rintro e w' ⟨rfl, k1, rfl⟩
      go_wp2_with fail
      refine (HVS.out D b _ A3 n3 c3 HL3.out (by omega) _ (hD4.drewN k1) (by exact sc4)).mono ?_
      rintro e w5 ⟨A5, c5, hl5, rfl, hc5, hm5, sl5, hb5⟩
      have hb45 : Below w4.heap.size w4 w5 := (below_drewN (Below.refl _ w4) k1).trans hb5
      have sa5 := sa4.below hb45
      have bw5 := bw4.trans (hb45.mono bw4.size)
      have HL5 := Lib.hid hl5
      clear hl5 hb5
      go_wp2_with fail
      refine (HAL.out _ sa5).mono ?_
      rintro e w6 ⟨v6, rfl, hown6, hb6⟩
      have sl6 := sl5.below hb6
      have bw6 := bw5.trans (hb6.mono bw5.size)
      obtain ⟨A6, n6, c6, rfl, hl6, hc6, hm6, sw6⟩ := hown6.shapeN
      have HL6 := Lib.hid hl6
      clear hown6 hl6
      go_wp2_with fail
      refine (ints_sameH A5 A6 na c5 n6 c6 _ _ HL5.out HL6.out rfl (by omega) _ sl6 sw6).mono ?_
      rintro e w' ⟨rfl, k2, rfl⟩
      go_wp2
      go_ret
      exact ⟨rfl, below_drewN bw6 _⟩
    · have HB := Lib.hid (fun D W hc => coefs_bad D n A na ca hl W hc)
      have t1 : ((na : Int) != (n : Int)) = true := by rw [bne_iff_ne]; omega
      clear hs0 hord h0 hpr hsz hl
      go_enter Tryd.func6, Tryd.ntmps6
      go_wp2_with fail
      refine (HM.out).mono ?_
      rintro e w1 ⟨b, D, rfl, hD, hb1⟩
      have hT1 := hT.below hb1
      have hal : ∀ o, Below w.heap.size w (w1.alloc o) := fun o => hb1.alloc hb1.size o
      have hTa : ∀ o, Typed (w1.alloc o) := fun o => hT1.below ((Below.refl _ _).alloc (Nat.le_refl _) o)
      have hDa : ∀ o, (w1.alloc o).cell? ⟨D, 1, none⟩ = some (vi n) := fun o => (World.cell?_alloc_lt w1 o ⟨D, 1, none⟩ hD.lt).trans hD.c1
      have HAL := Lib.hid hal
      have HTA := Lib.hid hTa
      have HDA := Lib.hid hDa
      clear hal hTa hDa
      go_wp2_with fail
      refine (HB.out D _ (by exact HDA.out _)).mono ?_
      rintro e w' ⟨rfl, rfl⟩
      go_wp2_with fail
      refine (errIs 2 (by decide) _ (by exact HTA.out _)).mono ?_
      rintro e w2 ⟨rfl, hb2⟩
      go_wp2
      go_ret
      exact ⟨rfl, (HAL.out _).trans (hb2.mono (HAL.out _).size)⟩
  · have HN := Lib.hid (made2_no p size t hp hs ht hD w hT)
    clear hD
    go_enter Tryd.func6, Tryd.ntmps6
    go_wp2_with fail
    refine (HN.out).mono ?_
    rintro e w1 ⟨rfl, hb1⟩
    go_wp2
    go_ret
    exact ⟨rfl, hb1.alloc hb1.size _⟩
end Go.Proofs.YtkhkoeibigpdnaaDoor

/- Walks of the reference's polynomials: Plus, Scaled, Minus, Times, Eval. -/
set_option linter.unusedVariables false
namespace Go.Proofs.YtkhkoeibigpdnaaDoor
open Go.RowKit Zp

/-- what a loop has laid so far, k of n -/
def LaidRel (l : List Int) (n : Nat) (w : World) (v i : Value) (wr : World) : Prop := ∃ k : Nat, k ≤ n ∧ i = vi k ∧ Own wr w.heap.size v (l.take k) ∧ Below w.heap.size w wr

set_option maxRecDepth 100000 in
set_option maxHeartbeats 1000000 in
theorem rplus_n (p : Nat) [NeZero p] (hp2 : p ≤ 2147483647) (A B : Option Addr) (na ca nb cb : Nat) (xs ys : List Int) (hna : xs.length = na) (hnb : ys.length = nb) (hxs : ∀ n ∈ xs, I64 n) (hys : ∀ n ∈ ys, I64 n) (hrx : na ≤ 8388608) (hry : nb ≤ 8388608)
    (w : World) (hsx : SL w A xs) (hsy : SL w B ys) :
    Calls Tryd.prog 137 #[vi p, .slice A na ca, .slice B nb cb] w fun e w' => Made (fvs (trimL (addL (els p xs) (els p ys)))) w e w' := by
  obtain ⟨n, hn⟩ : ∃ n, n = max na nb := ⟨_, rfl⟩
  have hn8 : n ≤ 8388608 := by omega
  obtain ⟨l, hl⟩ : ∃ l, l = addL (els p xs) (els p ys) := ⟨_, rfl⟩
  rw [← hl]
  have hll : l.length = n := by rw [hl, addL, tab_length, List.length_map, List.length_map, hna, hnb, hn]
  have hnn : na ≤ n ∧ nb ≤ n ∧ (n = na ∨ n = nb) := by omega
  obtain ⟨hn1, hn2, hn3⟩ := hnn
  have hco : ∀ k, co l k = el p (xs.getD k 0) + el p (ys.getD k 0) := fun k => by rw [hl, co_addL, co_els, co_els]
  have HLL := Lib.hid hll
  have HCO := Lib.hid hco
  have HNA := Lib.hid hna
  have HNB := Lib.hid hnb
  have HN3 := Lib.hid hn3
  clear hl hn hll hna hnb hco hn3
  go_enter Tryd.func137, Tryd.ntmps137
  go_wp2
  go_loopw [7, 8, 9, 10, 11] (fun v i _ _ _ wr => LaidRel (fvs l) n w v i wr) (fun _ i _ _ _ _ => n - (intOf i).toNat)
  case atStart => exact ⟨0, Nat.zero_le _, rfl, World.ownsRow_nil _ _ _ _, Below.refl _ _⟩
  case round =>
    obtain ⟨k, hk, rfl, hown, hb⟩ := hrel
    by_cases hkn : k < n
    · have hsx' := hsx.below hb
      have hsy' := hsy.below hb
      have h2 := map_take_succ fv l k (by rw [HLL.out]; exact hkn)
      have h3 : l[k]'(by rw [HLL.out]; exact hkn) = el p (xs.getD k 0) + el p (ys.getD k 0) := by
        rw [← co_of_lt (by rw [HLL.out]; exact hkn), HCO.out]
      rw [h3] at h2
      have hatx := fun (W : World) hs => ref_at_n A _ ca xs HNA.out (by omega) k (by constructor <;> omega) W hs
      have haty := fun (W : World) hs => ref_at_n B _ cb ys HNB.out (by omega) k (by constructor <;> omega) W hs
      rw [atI_getD] at hatx haty
      have ix := i64_getD' hxs k
      have iy := i64_getD' hys k
      generalize xs.getD k 0 = x at hatx h2 ix
      generalize ys.getD k 0 = y at haty h2 iy
      have hadd := fun W => radd_any p hp2 x y ix iy W
      generalize el p x + el p y = Z at hadd h2
      have hlk : ((fvs l).take k).length = k := by rw [List.length_take, List.length_map, HLL.out]; omega
      have hl16 : ((fvs l).take k).length < 17592186044416 := by omega
      have H2 := Lib.hid h2
      have HATX := Lib.hid hatx
      have HATY := Lib.hid haty
      have HADD := Lib.hid hadd
      have H16 := Lib.hid hl16
      clear hatx haty hadd h2 h3 hlk hl16
      have hcase : k < na ∨ ¬ k < na ∧ k < nb := by have := HN3.out; omega
      rcases hcase with hlt | ⟨hlt, hlt2⟩
      · go_wp2_with fail
        refine (HATX.out _ hsx').mono ?_
        rintro e w' ⟨rfl, rfl⟩
        go_wp2_with fail
        refine (HATY.out _ hsy').mono ?_
        rintro e w' ⟨rfl, rfl⟩
        go_wp2_with (first | (go_at_call 88; refine (HADD.out _).mono ?_; rintro e w' ⟨rfl, rfl⟩) | (at_builtin; refine wpList_app1 wr (fv Z) rfl _ _ rfl w.heap.size _ _ rfl rfl hown H16.out hb.size ?_; intro v' w1 hg))
        go_roundw
        case rel => exact ⟨k + 1, by omega, by go_num, by rw [← H2.out]; exact hg.own, hg.below hb hown (Nat.le_refl _) hb.size⟩
        case measure => simp [intOf]; omega
      · go_wp2_with fail
        refine (HATX.out _ hsx').mono ?_
        rintro e w' ⟨rfl, rfl⟩
        go_wp2_with fail
        refine (HATY.out _ hsy').mono ?_
        rintro e w' ⟨rfl, rfl⟩
        go_wp2_with (first | (go_at_call 88; refine (HADD.out _).mono ?_; rintro e w' ⟨rfl, rfl⟩) | (at_builtin; refine wpList_app1 wr (fv Z) rfl _ _ rfl w.heap.size _ _ rfl rfl hown H16.out hb.size ?_; intro v' w1 hg))
        go_roundw
        case rel => exact ⟨k + 1, by omega, by go_num, by rw [← H2.out]; exact hg.own, hg.below hb hown (Nat.le_refl _) hb.size⟩
        case measure => simp [intOf]; omega
    · obtain rfl : k = n := by omega
      have hLn : (fvs l).length = k := by rw [List.length_map, HLL.out]
      rw [List.take_of_length_le (by rw [hLn]; exact Nat.le_refl _)] at hown
      obtain ⟨A1, n1, c1, rfl, hl1, hc1, _, hs1⟩ := hown.shapeN
      rw [hLn] at hl1
      subst hl1
      have ht := rtrim_n p hp2 A1 k c1 (fvs l) hLn (i64_fvsR l hp2) (by omega) hc1 wr hs1
      rw [els_fvs] at ht
      have HT := Lib.hid ht
      clear ht hLn hown
      go_wp2_with fail
      refine (HT.out).mono ?_
      rintro e w4 ⟨v4, rfl, hown4, hb4⟩
      go_wp2
      go_ret
      exact ⟨v4, rfl, hown4.more hb.size, hb.trans (hb4.mono hb.size)⟩

set_option maxRecDepth 100000 in
set_option maxHeartbeats 1000000 in
theorem rscaled_n (p : Nat) [NeZero p] (hp2 : p ≤ 2147483647) (A : Option Addr) (na ca : Nat) (xs : List Int) (hna : xs.length = na) (hxs : ∀ n ∈ xs, I64 n) (c : Int) (hc : I64 c) (m : Nat) (hm : m ≤ 8388608) (hrx : na ≤ 8388608)
    (w : World) (hsx : SL w A xs) :
    Calls Tryd.prog 136 #[vi p, .slice A na ca, vi c, vi m] w fun e w' => Made (fvs (sclL (els p xs) (el p c) m)) w e w' := by
  obtain ⟨l, hl⟩ : ∃ l, l = (els p xs).map (· * el p c) := ⟨_, rfl⟩
  obtain ⟨L, hL⟩ : ∃ L, L = List.replicate m 0 ++ l := ⟨_, rfl⟩
  have hsc : sclL (els p xs) (el p c) m = trimL L := by rw [hL, hl]; rfl
  rw [hsc]
  have HL := Lib.hid hL
  have hll : l.length = na := by rw [hl]; simp [hna]
  have hco : ∀ k (hk : k < xs.length) (hk' : k < l.length), l[k] = el p xs[k] * el p c := fun k hk hk' => by simp [hl]
  have hmk := make_ints m m (Nat.le_refl _) (by omega)
  have HLL := Lib.hid hll
  have HCO := Lib.hid hco
  have HNA := Lib.hid hna
  clear hl hll hna hco hsc hL
  go_enter Tryd.func136, Tryd.ntmps136
  go_wp2
  go_loopw [9, 10, 11] (fun v i _ wr => ∃ k : Nat, k ≤ na ∧ i = vi k ∧ Own wr w.heap.size v (List.replicate m 0 ++ (fvs l).take k) ∧ Below w.heap.size w wr) (fun _ i _ _ => na - (intOf i).toNat)
  case atStart => exact ⟨0, Nat.zero_le _, rfl, by simpa using own_made w _ m (Nat.le_refl _) (by omega), (Below.refl _ _).alloc (Nat.le_refl _) _⟩
  case round =>
    obtain ⟨k, hk, rfl, hown, hb⟩ := hrel
    by_cases hkn : k < na
    · have hkx : k < xs.length := by rw [HNA.out]; exact hkn
      have hkl : k < l.length := by rw [HLL.out]; exact hkn
      obtain ⟨ad, rfl, hab, hcell⟩ := (hsx.below hb).at_ hkx
      have hI := hxs _ (List.getElem_mem hkx)
      have h2 := map_take_succ fv l k hkl
      rw [HCO.out k hkx hkl] at h2
      have hmul := fun W => rmul_any p hp2 xs[k] c hI hc W
      generalize xs[k] = x at hcell hI h2 hmul
      generalize el p x * el p c = Z at h2 hmul
      have hlk : (List.replicate m (0 : Int) ++ (fvs l).take k).length < 17592186044416 := by
        rw [List.length_append, List.length_replicate, List.length_take, List.length_map, HLL.out]; omega
      have HLK := Lib.hid hlk
      have H2 := Lib.hid h2
      have HMUL := Lib.hid hmul
      clear h2 hmul hlk
      go_wp2_with (first | (go_at_call 69; refine (HMUL.out _).mono ?_; rintro e w' ⟨rfl, rfl⟩) | (at_builtin; refine wpList_app1 wr (fv Z) rfl _ _ rfl w.heap.size _ _ rfl rfl hown HLK.out hb.size ?_; intro v' w1 hg))
      go_roundw
      case rel =>
        refine ⟨k + 1, by omega, by go_num, ?_, hg.below hb hown (Nat.le_refl _) hb.size⟩
        have h1 := hg.own
        rw [List.append_assoc, H2.out] at h1
        exact h1
      case measure => simp [intOf]; omega
    · obtain rfl : k = na := by omega
      have hfv : List.replicate m (0 : Int) ++ (fvs l).take k = fvs L := by
        rw [List.take_of_length_le (by rw [List.length_map, HLL.out]; exact Nat.le_refl _), HL.out]; simp [fv_zero]
      rw [hfv] at hown
      have hLn : (fvs L).length = m + k := by rw [HL.out, List.length_map, List.length_append, List.length_replicate, HLL.out]
      obtain ⟨A1, n1, c1, rfl, hl1, hc1, _, hs1⟩ := hown.shapeN
      have ht := rtrim_n p hp2 A1 n1 c1 (fvs L) hl1 (i64_fvsR L hp2) (by omega) hc1 wr hs1
      rw [els_fvs] at ht
      have HT := Lib.hid ht
      clear ht hLn hown hl1 hfv
      go_wp2_with fail
      refine (HT.out).mono ?_
      rintro e w4 ⟨v4, rfl, hown4, hb4⟩
      go_wp2
      go_ret
      exact ⟨v4, rfl, hown4.more hb.size, hb.trans (hb4.mono hb.size)⟩


theorem trim_times {p : Nat} [NeZero p] (a b : List (Fin p)) (k : Nat) (hk : k < a.length) : trimL (addL (trimL (mulL (a.take k) b)) (sclL b a[k] k)) = trimL (mulL (a.take (k + 1)) b) := trimL_congr fun i => by
  have hl : (a.take k).length = k := by rw [List.length_take]; omega
  rw [List.take_succ_eq_append_getElem hk, co_mulL_snoc, co_addL, co_trim, co_sclL, hl]
  by_cases h : i < k
  · rw [if_pos h, if_neg (by omega)]
  · rw [if_neg h, if_pos (by omega)]; grind

set_option maxRecDepth 100000 in
set_option maxHeartbeats 1000000 in
theorem rtimes_n (p : Nat) [NeZero p] (hp2 : p ≤ 2147483647) (A B : Option Addr) (na ca nb cb : Nat) (xs ys : List Int) (hna : xs.length = na) (hnb : ys.length = nb) (hxs : ∀ n ∈ xs, I64 n) (hys : ∀ n ∈ ys, I64 n) (hr : na + nb ≤ 8388608)
    (w : World) (hsx : SL w A xs) (hsy : SL w B ys) :
    Calls Tryd.prog 146 #[vi p, .slice A na ca, .slice B nb cb] w fun e w' => Made (fvs (trimL (mulL (els p xs) (els p ys)))) w e w' := by
  have HNA := Lib.hid hna
  have HNB := Lib.hid hnb
  clear hna hnb
  go_enter Tryd.func146, Tryd.ntmps146
  go_wp2
  go_loopw [7, 8, 9] (fun v i _ wr => ∃ k : Nat, k ≤ na ∧ i = vi k ∧ Own wr w.heap.size v (fvs (trimL (mulL ((els p xs).take k) (els p ys)))) ∧ Below w.heap.size w wr) (fun _ i _ _ => na - (intOf i).toNat)
  case atStart => exact ⟨0, Nat.zero_le _, rfl, World.ownsRow_nil _ _ _ _, Below.refl _ _⟩
  case round =>
    obtain ⟨k, hk, rfl, hown, hb⟩ := hrel
    by_cases hkn : k < na
    · have hkx : k < xs.length := by rw [HNA.out]; exact hkn
      have hke : k < (els p xs).length := by simpa using hkx
      obtain ⟨ad, rfl, hab, hcell⟩ := (hsx.below hb).at_ hkx
      have hI := hxs _ (List.getElem_mem hkx)
      have hst := trim_times (els p xs) (els p ys) k hke
      have e1 : (els p xs)[k] = el p xs[k] := by simp
      rw [e1] at hst
      generalize xs[k] = x at hcell hI hst e1
      have hlen : (trimL (mulL ((els p xs).take k) (els p ys))).length ≤ 8388608 := by
        have h1 := mulL_trim_length ((els p xs).take k) (els p ys)
        rw [List.length_take, List.length_map, HNA.out, List.length_map, HNB.out] at h1; omega
      have hlen2 : (sclL (els p ys) (el p x) k).length ≤ 8388608 := by
        have h1 := sclL_length (els p ys) (el p x) k
        rw [List.length_map, HNB.out] at h1; omega
      generalize trimL (mulL ((els p xs).take k) (els p ys)) = O at hown hlen hst
      have hsc := rscaled_n p hp2 B nb cb ys HNB.out hys x hI k (by omega) (by omega) _ (hsy.below hb)
      generalize sclL (els p ys) (el p x) k = S at hsc hlen2 hst
      obtain ⟨A1, n1, c1, rfl, hl1, hc1, _, hs1⟩ := hown.shapeN
      rw [List.length_map] at hl1
      have hpl := fun (C : Option Addr) (nc cc : Nat) hl hr W hsx' hsy' => rplus_n p hp2 A1 C n1 c1 nc cc (fvs O) (fvs S) (by rw [List.length_map]; exact hl1) hl (i64_fvsR _ hp2) (i64_fvsR _ hp2) (by omega) hr W hsx' hsy'
      simp only [els_fvs] at hpl
      rw [hst] at hpl
      have HPL := Lib.hid hpl
      have HSC := Lib.hid hsc
      have HL2 := Lib.hid hlen2
      clear hpl hsc hst hlen2 hlen hl1 hown e1
      go_wp2_with fail
      refine (HSC.out).mono ?_
      rintro e w1 ⟨v, rfl, hown1, hb1⟩
      obtain ⟨A2, n2, c2, rfl, hl2, hc2, _, hs2⟩ := hown1.shapeN
      have hr2 : n2 ≤ 8388608 := by rw [← hl2, List.length_map]; exact HL2.out
      have H2 := Lib.hid hl2
      clear hl2 hown1
      go_wp2_with fail
      refine (HPL.out A2 n2 c2 H2.out hr2 _ (hs1.below hb1) hs2).mono ?_
      rintro e w2 ⟨v2, rfl, hown2, hb2⟩
      have hbel2 := hb.trans ((hb1.trans (hb2.mono hb1.size)).mono hb.size)
      have hown3 := hown2.more (Nat.le_trans hb.size hb1.size)
      clear hown2 hb2
      go_wp2
      go_roundw
      case rel => exact ⟨k + 1, by omega, by go_num, hown3, hbel2⟩
      case measure => simp [intOf]; omega
    · obtain rfl : k = na := by omega
      rw [List.take_of_length_le (by rw [List.length_map, HNA.out]; exact Nat.le_refl _)] at hown
      go_wp2
      go_ret
      exact ⟨_, rfl, hown, hb⟩

def EvalRel {p : Nat} [NeZero p] (l : List (Fin p)) (X : Fin p) (s q i : Value) : Prop := ∃ k : Nat, k ≤ l.length ∧ i = vi k ∧ s = vi (fv (ev (l.take k) X)) ∧ q = vi (fv (pw X k))
set_option maxRecDepth 100000 in
set_option maxHeartbeats 1000000 in
theorem reval_n (p : Nat) [NeZero p] (hp1 : 2 ≤ p) (hp2 : p ≤ 2147483647) (A : Option Addr) (na ca : Nat) (xs : List Int) (hna : xs.length = na) (hxs : ∀ n ∈ xs, I64 n) (hr : na * 8 ≤ 281474976710656) (x : Int) (hx : I64 x) (w : World) (hsx : SL w A xs) :
    Calls Tryd.prog 76 #[vi p, .slice A na ca, vi x] w fun e w' => e = .returned (vi (fv (ev (els p xs) (el p x)))) ∧ w = w' := by
  obtain ⟨l, hl⟩ : ∃ l, l = els p xs := ⟨_, rfl⟩
  rw [← hl]
  have hll : l.length = na := by rw [hl]; simp [hna]
  have hco : ∀ k (hk : k < xs.length) (hk' : k < l.length), l[k] = el p xs[k] := fun k hk hk' => by simp [hl]
  have HLL := Lib.hid hll
  have HCO := Lib.hid hco
  have HNA := Lib.hid hna
  clear hl hll hna hco
  go_enter Tryd.func76, Tryd.ntmps76
  go_wp2
  go_loop [7, 8, 9, 10] (fun s q i _ => EvalRel l (el p x) s q i) (fun _ _ i _ => na - (intOf i).toNat)
  case atStart => exact ⟨0, Nat.zero_le _, rfl, rfl, by rw [pw_zero, fv_one hp1]⟩
  case round =>
    obtain ⟨k, hk, rfl, rfl, rfl⟩ := hrel
    rw [HLL.out] at hk
    by_cases hkn : k < na
    · have hkx : k < xs.length := by rw [HNA.out]; exact hkn
      have hkl : k < l.length := by rw [HLL.out]; exact hkn
      obtain ⟨ad, rfl, hab, hcell⟩ := hsx.at_ hkx
      have hI := hxs _ (List.getElem_mem hkx)
      have hst : ev (l.take (k + 1)) (el p x) = ev (l.take k) (el p x) + el p xs[k] * pw (el p x) k := by
        rw [List.take_succ_eq_append_getElem hkl, ev_snoc, HCO.out k hkx hkl, List.length_take]
        congr 3; omega
      have hpw := pw_succ (el p x) k
      have hmul := fun W => rmul_any p hp2 xs[k] (fv (pw (el p x) k)) hI (i64_fv _ hp2) W
      have hmul2 := fun W => rmul_any p hp2 (fv (pw (el p x) k)) x (i64_fv _ hp2) hx W
      rw [el_fv] at hmul hmul2
      rw [← hpw] at hmul2
      generalize xs[k] = c at hcell hI hst hmul
      generalize el p c * pw (el p x) k = Z at hst hmul
      have h1 := fv_nonneg Z
      have h2 := fv_lt Z
      have h3 := fv_nonneg (ev (l.take k) (el p x))
      have h4 := fv_lt (ev (l.take k) (el p x))
      have hsum := fv_add (ev (l.take k) (el p x)) Z
      rw [← hst] at hsum
      have HMUL := Lib.hid hmul
      have HMUL2 := Lib.hid hmul2
      have HSUM := Lib.hid hsum
      clear hmul hmul2 hsum hst hpw
      go_wp2_with fail
      refine (HMUL.out _).mono ?_
      rintro e w' ⟨rfl, rfl⟩
      go_wp2_with fail
      refine (HMUL2.out _).mono ?_
      rintro e w' ⟨rfl, rfl⟩
      go_wp2
      go_round
      case rel => exact ⟨k + 1, by rw [HLL.out]; omega, by go_num, by rw [HSUM.out], rfl⟩
      case measure => simp [intOf]; omega
    · obtain rfl : k = na := by omega
      have he : l.take k = l := List.take_of_length_le (by rw [HLL.out]; exact Nat.le_refl _)
      have HE := Lib.hid he
      clear he
      go_wp2
      go_ret
      exact ⟨ret_int (by rw [HE.out]), rfl⟩
end Go.Proofs.YtkhkoeibigpdnaaDoor

/- Walks of the reference's Points and Values. -/
set_option linter.unusedVariables false
namespace Go.Proofs.YtkhkoeibigpdnaaDoor
open Go.RowKit Zp

/-- a reference's domain lies at a block -/
structure RD (w : World) (B q n : Nat) (s r : Int) : Prop where
  c0 : w.cell? ⟨B, 0, none⟩ = some (vi q)
  c1 : w.cell? ⟨B, 1, none⟩ = some (vi n)
  c2 : w.cell? ⟨B, 2, none⟩ = some (vi s)
  c3 : w.cell? ⟨B, 3, none⟩ = some (vi r)
theorem RD.new (w : World) (t : TypeId) (q n : Nat) (s r : Int) : RD (w.alloc (.cells #[vi q, vi n, vi s, vi r] t)) w.heap.size q n s r := by
  have h := Blk.new w t #[vi q, vi n, vi s, vi r]
  exact ⟨(h.cell 0).trans rfl, (h.cell 1).trans rfl, (h.cell 2).trans rfl, (h.cell 3).trans rfl⟩
theorem RD.below {w w' : World} {B q n : Nat} {s r : Int} (h : RD w B q n s r) {X : Nat} (hb : Below X w w') (hB : B < X) : RD w' B q n s r :=
  ⟨(hb.cell (p := ⟨B, 0, none⟩) hB).trans h.c0, (hb.cell (p := ⟨B, 1, none⟩) hB).trans h.c1, (hb.cell (p := ⟨B, 2, none⟩) hB).trans h.c2, (hb.cell (p := ⟨B, 3, none⟩) hB).trans h.c3⟩
theorem made_boxed {w w0 w' : World} {xs : List Int} {e : Ending} (hb : Below w.heap.size w w0) (h : Made xs w0 e w') : Made xs w e w' := by
  obtain ⟨v, h1, h2, h3⟩ := h
  exact ⟨v, h1, h2.more hb.size, hb.trans (h3.mono hb.size)⟩
theorem powL_get {p : Nat} [NeZero p] (s r : Fin p) (n k : Nat) (hk : k < (powL s r n).length) : (powL s r n)[k] = s * pw r k := by
  rw [powL_length] at hk
  rw [← co_of_lt (by rw [powL_length]; exact hk)]; unfold powL; rw [co_tab, if_pos hk]

set_option maxRecDepth 100000 in
set_option maxHeartbeats 2000000 in
theorem rpoints_any (q : Nat) [NeZero q] (hqm : q ≤ 2147483647) (n : Nat) (hn : n ≤ 65536) (s r : Fin q) (w : World) :
    Calls Tryd.prog 20 #[RDom q n (fv s) (fv r)] w fun e w' => Made (fvs (powL s r n)) w e w' := by
  obtain ⟨l, hl⟩ : ∃ l, l = powL s r n := ⟨_, rfl⟩
  rw [← hl]
  have hll : l.length = n := by rw [hl, powL_length]
  have hget : ∀ k (hk : k < l.length), l[k] = s * pw r k := fun k hk => by
    have := powL_get s r n k (by rw [← hl]; exact hk)
    rw [← this]; congr 1
  have HLL := Lib.hid hll
  have HG := Lib.hid hget
  have hba : Below w.heap.size w (w.alloc (.cells #[vi q, vi n, vi (fv s), vi (fv r)] 31)) := (Below.refl _ _).alloc (Nat.le_refl _) _
  have hrd := RD.new w 31 q n (fv s) (fv r)
  have hlt : w.heap.size < (w.alloc (.cells #[vi q, vi n, vi (fv s), vi (fv r)] 31)).heap.size := by simp
  clear hl hll hget
  go_enter Tryd.func20, Tryd.ntmps20
  go_wp2
  generalize w.alloc (.cells #[vi q, vi n, vi (fv s), vi (fv r)] 31) = w0 at hba hrd hlt ⊢
  obtain ⟨B, hB⟩ : ∃ B, B = w.heap.size := ⟨_, rfl⟩
  rw [← hB] at hrd hlt ⊢
  have HB := Lib.hid hB
  clear hB
  go_loopw [3, 4, 5] (fun v x i wr => ∃ k : Nat, k ≤ n ∧ i = vi k ∧ x = vi (fv (s * pw r k)) ∧ Own wr w0.heap.size v ((fvs l).take k) ∧ Below w0.heap.size w0 wr) (fun _ _ i _ => n - (intOf i).toNat)
  case atStart => exact ⟨0, Nat.zero_le _, rfl, by rw [pw_zero, mul_one_], World.ownsRow_nil _ _ _ _, Below.refl _ _⟩
  case round =>
    obtain ⟨k, hk, rfl, rfl, hown, hb⟩ := hrel
    have hrw := hrd.below hb hlt
    have c1 := hrw.c1
    by_cases hkn : k < n
    · have hkl : k < l.length := by rw [HLL.out]; exact hkn
      have h2 := map_take_succ fv l k hkl
      rw [HG.out k hkl] at h2
      have hmul := fun W => rmul_any q hqm (fv (s * pw r k)) (fv r) (i64_fv _ hqm) (i64_fv _ hqm) W
      have hst : s * pw r k * r = s * pw r (k + 1) := by rw [pw_succ]; grind
      rw [el_fv, el_fv, hst] at hmul
      generalize s * pw r k = X at h2 hmul hst
      have hlk : ((fvs l).take k).length < 17592186044416 := by
        have := List.length_take_le k (fvs l); omega
      have H2 := Lib.hid h2
      have HMUL := Lib.hid hmul
      have HLK := Lib.hid hlk
      clear h2 hmul hst hlk
      go_wp2_with (first | (go_at_call 69; refine (HMUL.out _).mono ?_; rintro e w' ⟨rfl, rfl⟩) | (at_builtin; refine wpList_app1 wr (fv X) rfl _ _ rfl w0.heap.size _ _ rfl rfl hown HLK.out hb.size ?_; intro v' w1 hg; have hb1 := hg.below hb hown (Nat.le_refl _) hb.size; have hr1 := hrd.below hb1 hlt; have d0 := hr1.c0; have d3 := hr1.c3))
      go_roundw
      case rel => exact ⟨k + 1, by omega, by go_num, rfl, by rw [← H2.out]; exact hg.own, hb1⟩
      case measure => simp [intOf]; omega
    · obtain rfl : k = n := by omega
      go_wp2
      go_ret
      rw [List.take_of_length_le (by rw [List.length_map, HLL.out]; exact Nat.le_refl _)] at hown
      exact made_boxed hba ⟨_, rfl, hown, hb⟩

/-- the first k points are values already -/
def ValsRel {q : Nat} [NeZero q] (V P : Nat → Fin q) (n : Nat) (base : Nat) (g c : Nat) (i : Value) (wr : World) : Prop :=
  ∃ (k : Nat) (L : List (Fin q)), k ≤ n ∧ i = vi k ∧ L.length = n ∧ (∀ j, j < n → co L j = if j < k then V j else P j) ∧ Own wr base (.slice (some ⟨g, 0, none⟩) n c) (fvs L)
set_option maxRecDepth 100000 in
set_option maxHeartbeats 2000000 in
theorem rvalues_any (q : Nat) [NeZero q] (hq2 : 2 ≤ q) (hqm : q ≤ 2147483647) (n : Nat) (hn1 : 1 ≤ n) (hn : n ≤ 65536) (s r : Fin q) (A : Option Addr) (m ca : Nat) (xs : List Int) (hml : xs.length = m) (hxs : ∀ x ∈ xs, I64 x) (hr : m * 8 ≤ 281474976710656) (w : World) (hs : SL w A xs) :
    Calls Tryd.prog 31 #[RDom q n (fv s) (fv r), .slice A m ca] w fun e w' => Made (fvs (valL s r n (els q xs))) w e w' := by
  have hba : Below w.heap.size w (w.alloc (.cells #[vi q, vi n, vi (fv s), vi (fv r)] 31)) := (Below.refl _ _).alloc (Nat.le_refl _) _
  have hrd := RD.new w 31 q n (fv s) (fv r)
  have hlt : w.heap.size < (w.alloc (.cells #[vi q, vi n, vi (fv s), vi (fv r)] 31)).heap.size := by simp
  have HP := Lib.hid (fun w => rpoints_any q hqm n hn s r w)
  have hpl : (powL s r n).length = n := powL_length _ _ _
  have hpg : ∀ j, j < n → co (powL s r n) j = s * pw r j := fun j hj => by unfold powL; rw [co_tab, if_pos hj]
  have hvl : ∀ L : List (Fin q), L.length = n → (∀ j, j < n → co L j = ev (els q xs) (s * pw r j)) → L = valL s r n (els q xs) := fun L h1 h2 =>
    ext_co (by rw [h1, valL_length]) (fun i hi => by rw [h2 i (by omega)]; unfold valL; rw [co_tab, if_pos (by omega)])
  generalize hP : powL s r n = P at HP hpl hpg
  have hev := fun x hx W hsW => reval_n q hq2 hqm A m ca xs hml hxs hr x hx W hsW
  have HPL := Lib.hid hpl
  have HPG := Lib.hid hpg
  have HVL := Lib.hid hvl
  have HEV := Lib.hid hev
  clear hP hpl hpg hvl hev hml
  go_enter Tryd.func31, Tryd.ntmps31
  go_wp2_with fail
  refine (HP.out _).mono ?_
  rintro e w1 ⟨v, rfl, hown, hb1⟩
  obtain ⟨g, c, rfl, hg1, hg2⟩ := hown.block (by rw [List.length_map, HPL.out]; exact hn1)
  have hl : (fvs P).length = n := by rw [List.length_map, HPL.out]
  rw [hl] at hown ⊢
  have hrd1 := hrd.below hb1 hlt
  have hbw1 := hba.trans (hb1.mono hba.size)
  have hs1 := hs.below hbw1
  have hown' := hown.more (Nat.le_of_lt hlt)
  have hgw : w.heap.size < g := Nat.lt_of_lt_of_le hlt hg1
  clear hl hown hb1 hrd
  obtain ⟨B, hB⟩ : ∃ B, B = w.heap.size := ⟨_, rfl⟩
  rw [← hB] at hrd1 hgw hown' ⊢
  have HB := Lib.hid hB
  clear hB
  go_wp2
  go_loopw [6] (fun i wr => ValsRel (fun j => ev (els q xs) (s * pw r j)) (fun j => s * pw r j) n B g c i wr ∧ Below (B + 1) w1 wr) (fun i _ => n - (intOf i).toNat)
  case atStart => exact ⟨⟨0, P, Nat.zero_le _, rfl, HPL.out, fun j hj => by rw [if_neg (by omega)]; exact HPG.out j hj, hown'⟩, Below.refl _ _⟩
  case round =>
    obtain ⟨⟨k, L, hk, rfl, hLl, hLc, hownL⟩, hb⟩ := hrel
    have HLL := Lib.hid hLl
    have HLC := Lib.hid hLc
    clear hLl hLc
    by_cases hkn : k < n
    · have hkL : k < (fvs L).length := by rw [List.length_map, HLL.out]; exact hkn
      have hat := hownL.at_ (by rw [List.length_map, HLL.out]) k hkL
      have hfz := hownL.frozen_ (by rw [List.length_map, HLL.out]) k
      have hLk : (fvs L)[k] = fv (s * pw r k) := by
        have h1 := HLC.out k hkn
        rw [if_neg (by omega), co_of_lt (by rw [HLL.out]; exact hkn)] at h1
        simp [h1]
      rw [hLk] at hat
      have hsW := hs.below (hbw1.trans (hb.mono (by have := HB.out; omega)))
      have c0 := (hrd1.below hb (Nat.lt_succ_self _)).c0
      have hev := fun W hsW => HEV.out (fv (s * pw r k)) (i64_fv _ hqm) W hsW
      simp only [el_fv] at hev
      obtain ⟨V, hV⟩ : ∃ V, V = ev (els q xs) (s * pw r k) := ⟨_, rfl⟩
      rw [← hV] at hev
      have hst := hownL.store (by rw [List.length_map, HLL.out]) k (fv V)
      have hset : (fvs L).set k (fv V) = fvs (L.set k V) := by simp [List.map_set]
      rw [hset] at hst
      have hnew : ∀ j, j < n → co (L.set k V) j = if j < k + 1 then ev (els q xs) (s * pw r j) else s * pw r j := fun j hj => by
        rw [co_of_lt (by rw [List.length_set, HLL.out]; exact hj), List.getElem_set]
        by_cases hjk : k = j
        · rw [if_pos hjk, if_pos (by omega), hV, hjk]
        · rw [if_neg hjk, ← co_of_lt (by rw [HLL.out]; exact hj), HLC.out j hj]
          by_cases hlt2 : j < k
          · rw [if_pos hlt2, if_pos (by omega)]
          · rw [if_neg hlt2, if_neg (by omega)]
      generalize s * pw r k = X at hat hev hV
      have HE2 := Lib.hid hev
      have HST := Lib.hid hst
      have HNEW := Lib.hid hnew
      have i1 : (0 : Int) ≤ (k : Int) := by omega
      have i2 : (k : Int) < n := by omega
      have hmx : Tryd.prog.follows .mixedOrders = true := by kernel_rfl
      clear hev hst hset hnew hV hLk hownL
      go_wp2
      refine wp_region_quiet_tail 11 hmx (by kernel_rfl) ?_
      simp only [List.take_succ_cons, List.take_zero, List.drop_succ_cons, List.drop_zero]
      repeat (quiet_step ((go_at_call 76; exact quiet_eq (HE2.out _ (by exact hsW)))))
      refine wpQuiet_nil ?_
      intro _ hw'
      obtain ⟨nq1, hw''⟩ := hw'
      subst hw''
      go_wp2
      go_roundw
      case rel => exact ⟨⟨k + 1, L.set k V, by omega, by go_num, by rw [List.length_set]; exact HLL.out, HNEW.out, by exact HST.out.drewN nq1⟩, (below_drewN hb nq1).setCell (p := ⟨g, k, none⟩) (by show B + 1 ≤ g; omega) _⟩
      case measure => simp [intOf]; omega
    · obtain rfl : k = n := by omega
      have he := HVL.out L HLL.out (fun j hj => by rw [HLC.out j hj, if_pos (by omega)])
      rw [he] at hownL
      have hB := HB.out
      have hbf := hbw1.trans (hb.mono (by omega))
      go_wp2
      go_ret
      exact ⟨_, rfl, by rw [← hB]; exact hownL, hbf⟩
end Go.Proofs.YtkhkoeibigpdnaaDoor
