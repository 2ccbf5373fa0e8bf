/- A bundle of texts: Hm2, Asg, Yh, Yi, Yj, Yk, Lw1, Lw2. -/
import Derived.Test.YtpkhcncempoohaaGreatDoorQ07
import Derived.Test.YtpkhcncempoohaaGreatDoorQ06
import Derived.Deep.RegionLaw
import Derived.Test.YtpkhcncempoohaaGreatDoorQ08
import Derived.Maps.OwnSet
import Derived.StringKeys
import Derived.Test.YtpkhcncempoohaaGreatDoorQ05
set_option linter.unusedVariables false
set_option linter.unusedSimpArgs false
namespace Go.Proofs.YtpkhcncempoohaaGreatDoor
open Go
section
variable {P : Program} {ops : Array Oper} {Q : Exit → Act → World → Prop} {md : Region.Mode} {S C : World → Prop} {m : Nat}
def wpAnyN (P : Program) (md : Region.Mode) (ops : Array Oper) (Q : Exit → Act → World → Prop) (S C : World → Prop) (m : Nat) : Nat → Array Bool → Act → World → Prop
  | 0, listed, a, w => Region.ready md ops listed = [] ∧ Q .normal a w
  | fuel + 1, listed, a, w =>
    (Region.ready md ops listed = [] → Q .normal a w) ∧
    ∀ i ∈ Region.ready md ops listed, wpOp P ops Q i (fun a' w' => (S w' ∧ ((listed.setIfInBounds i true).getD m false = false → C w')) ∧ wpAnyN P md ops Q S C m fuel (listed.setIfInBounds i true) a' w') a w
theorem wpAny_of_N : ∀ (fuel : Nat) (listed : Array Bool) (a : Act) (w : World), wpAnyN P md ops Q S C m fuel listed a w → wpAny P md ops Q fuel listed a w
  | 0, _, _, _, h => h
  | fuel + 1, _, _, _, h => ⟨h.1, fun i hi => wpOp_mono (fun a' w' h' => wpAny_of_N fuel _ a' w' h'.2) (h.2 i hi)⟩
theorem wpAnyN_first {i : Nat} {oi : Oper} {v : Value} (hi : ops[i]? = some oi) (hsel : ∀ (j : Nat) (o : Oper) cs b, ops[j]? = some o → o.op ≠ .select cs b)
    (hQ : ∀ c a w, Q (.panic c) (a.put oi.dst v) w → Q (.panic c) a w) (him : i ≠ m) (hm : ∀ om, ops[m]? = some om → ∃ e ∈ om.after, Region.binds md e = true ∧ e.on = i) :
    ∀ (fuel : Nat) (listed : Array Bool) (a : Act) (w : World),
      (∀ j oj, ops[j]? = some oj → j ≠ i → listed.getD j true = false → (∀ e ∈ oj.after, Region.binds md e = true → e.on ≠ i) → oi.apart ops oj = true) →
      listed.getD m false = false → i ∈ Region.ready md ops listed → YieldsIf P ops C oi v a → S w → C w →
      wpAnyN P md ops Q S C m fuel (listed.setIfInBounds i true) (a.put oi.dst v) w → wpAnyN P md ops Q S C m (fuel + 1) listed a w := by
  intro fuel
  induction fuel with
  | zero =>
    intro listed a w _ hlm hr hy hSS hS H
    refine ⟨fun h => (by rw [h] at hr; cases hr), fun j hj => ?_⟩
    by_cases hji : j = i
    · subst hji; exact hy.wpOp hi hS ⟨⟨hSS, fun _ => hS⟩, H⟩
    · have := ready_mono hj hji
      rw [H.1] at this
      cases this
  | succ fuel ih =>
    intro listed a w hfree hlm hr hy hSS hS H
    refine ⟨fun h => (by rw [h] at hr; cases hr), fun j hj => ?_⟩
    by_cases hji : j = i
    · subst hji; exact hy.wpOp hi hS ⟨⟨hSS, fun _ => hS⟩, H⟩
    · have h1 := H.2 j (ready_mono hj hji)
      obtain ⟨hjun, oj, hoj, hall⟩ := mem_ready.1 hj
      have hnot : ∀ e ∈ oj.after, Region.binds md e = true → e.on ≠ i := fun e he hb heq => by
        have h1 := hall e he hb
        have h0 := (mem_ready.1 hr).1
        rw [heq] at h1
        rcases Nat.lt_or_ge i listed.size with h' | h'
        · simp [h'] at h0 h1; rw [h0] at h1; cases h1
        · simp [Array.getElem?_eq_none h'] at h1
      have hjm : j ≠ m := fun e => by
        subst e
        obtain ⟨e, he, hb, hon⟩ := hm oj hoj
        exact hnot e he hb hon
      have h2 := wpOp_putIf hoj (hfree j oj hoj hji hjun hnot) (fun cs b => hsel i oi cs b hi) (fun cs b => hsel j oj cs b hoj) hQ hy h1
      have hfree' : ∀ k ok, ops[k]? = some ok → k ≠ i → (listed.setIfInBounds j true).getD k true = false →
          (∀ e ∈ ok.after, Region.binds md e = true → e.on ≠ i) → oi.apart ops ok = true := fun k ok hk hki hun hno => by
        refine hfree k ok hk hki ?_ hno
        by_cases hjk : j = k
        · subst hjk; exact hjun
        · rw [getD_set_ne true hjk] at hun; exact hun
      have hlm' : (listed.setIfInBounds j true).getD m false = false := by rw [getD_set_ne false hjm]; exact hlm
      have hlm2 : ((listed.setIfInBounds i true).setIfInBounds j true).getD m false = false := by rw [getD_set_ne false hjm, getD_set_ne false him]; exact hlm
      refine wpOp_mono (fun a' w' h3 => ⟨⟨h3.2.1.1, fun _ => h3.2.1.2 hlm2⟩, ih (listed.setIfInBounds j true) a' w' hfree' hlm' (ready_mono hr (Ne.symm hji)) h3.1 h3.2.1.1 (h3.2.1.2 hlm2) ?_⟩) h2
      rw [Array.setIfInBounds_comm _ _ hji]
      exact h3.2.2
theorem wpAnyN_firstS {i : Nat} {oi : Oper} {v : Value} (hi : ops[i]? = some oi) (hsel : ∀ (j : Nat) (o : Oper) cs b, ops[j]? = some o → o.op ≠ .select cs b)
    (hQ : ∀ c a w, Q (.panic c) (a.put oi.dst v) w → Q (.panic c) a w) (him : i ≠ m) :
    ∀ (fuel : Nat) (listed : Array Bool) (a : Act) (w : World),
      (∀ j oj, ops[j]? = some oj → j ≠ i → listed.getD j true = false → (∀ e ∈ oj.after, Region.binds md e = true → e.on ≠ i) → oi.apart ops oj = true) →
      i ∈ Region.ready md ops listed → YieldsIf P ops S oi v a → S w → (listed.getD m false = false → C w) →
      wpAnyN P md ops Q S C m fuel (listed.setIfInBounds i true) (a.put oi.dst v) w → wpAnyN P md ops Q S C m (fuel + 1) listed a w := by
  intro fuel
  induction fuel with
  | zero =>
    intro listed a w _ hr hy hSS hS H
    refine ⟨fun h => (by rw [h] at hr; cases hr), fun j hj => ?_⟩
    by_cases hji : j = i
    · subst hji; exact hy.wpOp hi hSS ⟨⟨hSS, fun h => hS (by rw [getD_set_ne false him] at h; exact h)⟩, H⟩
    · have := ready_mono hj hji
      rw [H.1] at this
      cases this
  | succ fuel ih =>
    intro listed a w hfree hr hy hSS hS H
    refine ⟨fun h => (by rw [h] at hr; cases hr), fun j hj => ?_⟩
    by_cases hji : j = i
    · subst hji; exact hy.wpOp hi hSS ⟨⟨hSS, fun h => hS (by rw [getD_set_ne false him] at h; exact h)⟩, H⟩
    · have h1 := H.2 j (ready_mono hj hji)
      obtain ⟨hjun, oj, hoj, hall⟩ := mem_ready.1 hj
      have hnot : ∀ e ∈ oj.after, Region.binds md e = true → e.on ≠ i := fun e he hb heq => by
        have h1 := hall e he hb
        have h0 := (mem_ready.1 hr).1
        rw [heq] at h1
        rcases Nat.lt_or_ge i listed.size with h' | h'
        · simp [h'] at h0 h1; rw [h0] at h1; cases h1
        · simp [Array.getElem?_eq_none h'] at h1
      have h2 := wpOp_putIf hoj (hfree j oj hoj hji hjun hnot) (fun cs b => hsel i oi cs b hi) (fun cs b => hsel j oj cs b hoj) hQ hy h1
      have hfree' : ∀ k ok, ops[k]? = some ok → k ≠ i → (listed.setIfInBounds j true).getD k true = false →
          (∀ e ∈ ok.after, Region.binds md e = true → e.on ≠ i) → oi.apart ops ok = true := fun k ok hk hki hun hno => by
        refine hfree k ok hk hki ?_ hno
        by_cases hjk : j = k
        · subst hjk; exact hjun
        · rw [getD_set_ne true hjk] at hun; exact hun
      have hC : ∀ w', (((listed.setIfInBounds i true).setIfInBounds j true).getD m false = false → C w') → ((listed.setIfInBounds j true).getD m false = false → C w') := fun w' h h' => h (by
        rw [Array.setIfInBounds_comm _ _ (Ne.symm hji), getD_set_ne false him]; exact h')
      refine wpOp_mono (fun a' w' h3 => ⟨⟨h3.2.1.1, hC w' h3.2.1.2⟩, ih (listed.setIfInBounds j true) a' w' hfree' (ready_mono hr (Ne.symm hji)) h3.1 h3.2.1.1 (hC w' h3.2.1.2) ?_⟩) h2
      rw [Array.setIfInBounds_comm _ _ hji]
      exact h3.2.2
theorem wpAnyN_take {i d : Nat} {oi : Oper} {v : Value} {fuel : Nat} {listed : Array Bool} {a : Act} {w : World} (hi : ops[i]? = some oi) (hd : oi.dst = some d)
    (hs : Region.noSelect ops = true) (hf : Region.free md ops listed i = true) (hr : (Region.ready md ops listed).contains i = true)
    (hQ : ∀ c a w, Q (.panic c) (a.put (some d) v) w → Q (.panic c) a w) (him : decide (i = m) = false) (hm : (match ops[m]? with | some om => om.after.any fun e => Region.binds md e && e.on == i | none => true) = true) (hlm : listed.getD m false = false) (hy : YieldsIf P ops C oi v a) (hSS : S w) (hS : C w)
    (h : wpAnyN P md ops Q S C m fuel (listed.setIfInBounds i true) (a.put (some d) v) w) : wpAnyN P md ops Q S C m (fuel + 1) listed a w := by
  rw [← hd] at h hQ
  refine wpAnyN_first hi (Region.noSelect_spec hs) hQ (by simpa using him) (fun om hom => ?_) fuel listed a w (Region.free_spec hi hf) hlm (by simpa using hr) hy hSS hS h
  rw [hom] at hm
  obtain ⟨q, hq, h2⟩ := Array.any_eq_true.1 hm
  simp only [Bool.and_eq_true, beq_iff_eq] at h2
  exact ⟨_, Array.getElem_mem hq, h2.1, h2.2⟩
theorem wpAnyN_takeS {i d : Nat} {oi : Oper} {v : Value} {fuel : Nat} {listed : Array Bool} {a : Act} {w : World} (hi : ops[i]? = some oi) (hd : oi.dst = some d)
    (hs : Region.noSelect ops = true) (hf : Region.free md ops listed i = true) (hr : (Region.ready md ops listed).contains i = true)
    (hQ : ∀ c a w, Q (.panic c) (a.put (some d) v) w → Q (.panic c) a w) (him : decide (i = m) = false) (hy : YieldsIf P ops S oi v a) (hSS : S w) (hS : listed.getD m false = false → C w)
    (h : wpAnyN P md ops Q S C m fuel (listed.setIfInBounds i true) (a.put (some d) v) w) : wpAnyN P md ops Q S C m (fuel + 1) listed a w := by
  rw [← hd] at h hQ
  exact wpAnyN_firstS hi (Region.noSelect_spec hs) hQ (by simpa using him) fuel listed a w (Region.free_spec hi hf) (by simpa using hr) hy hSS hS h
def AllReadyN (P : Program) (md : Region.Mode) (ops : Array Oper) (Q : Exit → Act → World → Prop) (S C : World → Prop) (m fuel : Nat) (listed : Array Bool) (a : Act) (w : World) (rs : List Nat) : Prop :=
  ∀ i ∈ rs, wpOp P ops Q i (fun a' w' => (S w' ∧ ((listed.setIfInBounds i true).getD m false = false → C w')) ∧ wpAnyN P md ops Q S C m fuel (listed.setIfInBounds i true) a' w') a w
theorem AllReadyN.nil {fuel : Nat} {listed : Array Bool} {a : Act} {w : World} : AllReadyN P md ops Q S C m fuel listed a w [] := fun _ h => by cases h
theorem AllReadyN.cons {fuel : Nat} {listed : Array Bool} {a : Act} {w : World} {i : Nat} {o : Oper} {rs : List Nat} (ho : ops[i]? = some o)
    (h : ∀ K' : Act → World → Prop, Shut (∀ a w, S w → ((listed.setIfInBounds i true).getD m false = false → C w) → wpAnyN P md ops Q S C m fuel (listed.setIfInBounds i true) a w → K' a w) → if Region.wanted o (yielded ops a.tmps) = true then Oper.wp P o a w K' Q else K' (a.put o.dst undef) w)
    (hs : AllReadyN P md ops Q S C m fuel listed a w rs) : AllReadyN P md ops Q S C m fuel listed a w (i :: rs) := fun j hj => by
  rcases List.mem_cons.1 hj with rfl | hj
  · exact wpOp_step ho (fun K' hK => h K' (fun a w hSS hS hW => hK a w ⟨⟨hSS, hS⟩, hW⟩))
  · exact hs j hj
theorem wpAnyN_ready {rs : List Nat} {fuel : Nat} {listed : Array Bool} {a : Act} {w : World} (hr : Region.ready md ops listed = rs) (hne : rs ≠ [])
    (h : AllReadyN P md ops Q S C m fuel listed a w rs) : wpAnyN P md ops Q S C m (fuel + 1) listed a w := ⟨fun h0 => absurd (hr ▸ h0) hne, hr ▸ h⟩
theorem wpAnyN_done {listed : Array Bool} {a : Act} {w : World} (hr : Region.ready md ops listed = []) (h : Q .normal a w) : ∀ fuel, wpAnyN P md ops Q S C m fuel listed a w
  | 0 => ⟨hr, h⟩
  | _ + 1 => ⟨fun _ => h, by rw [hr]; simp⟩
theorem wp_region_N (m : Nat) {id : Nat} {a : Act} {w : World} (hm : P.follows .mixedOrders = true) (h : wpAnyN P .any ops Q S C m ops.size (Array.replicate ops.size false) a w.drew) : (Code.region id ops true).wp P Q a w :=
  wp_region_any hm (wpAny_of_N _ _ _ _ h)
end
end Go.Proofs.YtpkhcncempoohaaGreatDoor

namespace Go.Proofs.YtpkhcncempoohaaGreatDoor
open Go.RowKit
theorem run_appSG (t e : TypeId) (z : Value) (sz by_ : Nat) (ht : Tryz.prog.underlying t = some (.slice e)) (hinf : (Tryz.prog.info? e).map (fun i => (i.zero, i.size, i.bytes)) = some (some z, sz, by_)) (hzs : z.cells.size = sz) (hsz : 0 < sz)
    (W : World) (g : Nat) (news : List Value) (hnl : news.length = sz) (hc : ∀ j u, news[j]? = some u → W.cell? ⟨g, j, none⟩ = some u) (hone : ∀ u ∈ news, u.oneCell' = true) (base : Nat) (v : Value) (n : Nat) (xs : List Value) (hown : W.ownsRow base e sz v n xs) (h63 : n + 1 ≤ maxLen) (hby : (n + 1) * by_ ≤ 140737488355328) (hbase : base ≤ W.heap.size) (ty : TypeId) :
    ∃ v' w', (Builtin.append_ #[t, t] ty #[v, .slice (some ⟨g, 0, none⟩) 1 1]).run Tryz.prog W = .ok v' w' ∧ w'.ownsRow base e sz v' (n + 1) (xs ++ news) ∧ W.grownBy w' v.ownBlock ∧ (v'.ownBlock = v.ownBlock ∨ ∃ k, v'.ownBlock = some k ∧ W.heap.size ≤ k) := by
  obtain ⟨i0, hi, hz0, hz1, hz2⟩ := info_parts hinf
  obtain ⟨v', w', hrun, h2, h3, _, h5⟩ := run_append_own_at (P := Tryz.prog) W base t ty e i0 _ sz by_ ht hi hz0 hz1 hz2 hzs hsz
    v n xs hown ⟨g, 0, none⟩ 1 1 news (by rw [hnl, Nat.one_mul]) (by
      intro j u hj
      have e : (⟨g, 0, none⟩ : Addr).add j = ⟨g, j, none⟩ := by
        unfold Addr.add
        split
        · rename_i h0; subst h0; rfl
        · simp
      rw [e]
      exact hc j u hj) hone h63 hby hbase
  refine ⟨v', w', hrun, h2, h3, ?_⟩
  rcases h5 with h | h
  · exact .inl h
  · exact .inr ⟨_, h, Nat.le_refl _⟩
theorem step_appSG {ops : Array Oper} {o : Oper} {a : Act} {K : Act → World → Prop} {Q : Exit → Act → World → Prop} {E : Prop} (t e : TypeId) (z : Value) (sz by_ : Nat) (ht : Tryz.prog.underlying t = some (.slice e)) (hinf : (Tryz.prog.info? e).map (fun i => (i.zero, i.size, i.bytes)) = some (some z, sz, by_)) (hzs : z.cells.size = sz) (hsz : 0 < sz)
    (W : World) (g : Nat) (news : List Value) (hnl : news.length = sz) (hone : ∀ u ∈ news, u.oneCell' = true) (hgd : o.guard = none) (s x : Operand) (ho : o.op = .call { callee := .builtin .append, args := #[s, x], argTypes := #[t, t] })
    (base : Nat) (v : Value) (n : Nat) (xs : List Value) (hs : a.eval s = v) (hx : a.eval x = .slice (some ⟨g, 0, none⟩) 1 1) (hc : ∀ j u, news[j]? = some u → W.cell? ⟨g, j, none⟩ = some u) (hown : W.ownsRow base e sz v n xs) (h63 : n + 1 ≤ maxLen) (hby : (n + 1) * by_ ≤ 140737488355328) (hbase : base ≤ W.heap.size)
    (h : ∀ v' w', w'.ownsRow base e sz v' (n + 1) (xs ++ news) → W.grownBy w' v.ownBlock → (v'.ownBlock = v.ownBlock ∨ ∃ k, v'.ownBlock = some k ∧ W.heap.size ≤ k) → K (a.put o.dst v') w') :
    if Region.wanted o (yielded ops a.tmps) = true then Oper.wp Tryz.prog o a W K Q else E := by
  have hw : Region.wanted o (yielded ops a.tmps) = true := by simp [Region.wanted, hgd]
  rw [if_pos hw]
  obtain ⟨v', w', hrun, h1, h2, h3⟩ := run_appSG t e z sz by_ ht hinf hzs hsz W g news hnl hc hone base v n xs hown h63 hby hbase o.type
  unfold Oper.wp execOp
  simp only [ho, resolve, invoke, builtin, Sem.run_bind, Sem.run_pure, Result.andThen_ok, List.map_toArray, List.map_cons, List.map_nil, hs, hx, hrun]
  exact h v' w' h1 h2 h3
theorem row_form {w : World} {base : Nat} {e : TypeId} {sz n : Nat} {v : Value} {xs : List Value} (h : w.ownsRow base e sz v n xs) : ∃ A c, v = .slice A n c := by
  rcases h.2 with ⟨e1, rfl⟩ | ⟨g, cap, cur, e1, _⟩
  · exact ⟨_, _, e1⟩
  · exact ⟨_, _, e1⟩
end Go.Proofs.YtpkhcncempoohaaGreatDoor

namespace Go.Proofs.YtpkhcncempoohaaGreatDoor
open Go.RowKit Zp
theorem info_str : (Tryz.prog.info? 9).map (fun i => (i.zero, i.size, i.bytes)) = some (some (.string ⟨#[]⟩), 1, 16) := by kernel_rfl
theorem row1_at {w : World} {base : Nat} {e : TypeId} {v u : Value} (h : w.ownsRow base e 1 v 1 [u]) : ∃ g c cur, v = .slice (some ⟨g, 0, none⟩) 1 c ∧ base ≤ g ∧ Blk w g e cur ∧ cur[0]? = some u := by
  rcases h.2 with ⟨_, h0⟩ | ⟨g, cap, cur, rfl, hg, hh, h1, h2, h3, h4⟩
  · cases h0
  · refine ⟨g, cap, cur, rfl, hg, hh, ?_⟩
    have := congrArg (fun l => l[0]?) h4
    simpa using this
def TakenF (r f : Nat) (nm S : ByteArray) (A0 : Int) (l : Int) (w : World) (e : Ending) (w' : World) : Prop :=
  e = .returned (.tuple #[]) ∧ ∃ (g c : Nat) (cu : Array Value) (V : Value), Blk w' f 118 #[.string nm, .slice (some ⟨g, 0, none⟩) 1 c, .pointer none, vi A0, V] ∧ Blk w' g 9 cu ∧ cu[0]? = some (.string S) ∧ RT w' r 5 l ∧ Tn [r, f] w w'
set_option maxRecDepth 100000 in
set_option maxHeartbeats 4000000 in
theorem taken_any (r f cR cF : Nat) (nm : ByteArray) (A0 l : Int) (w : World) (h : RT w r 4 l) (hf : Blk w f 118 #[.string nm, .slice none 0 0, .pointer none, vi A0, .slice none 0 0]) (hR : Blk w cR 95 #[.pointer (some ⟨r, 0, none⟩)]) (hF : Blk w cF 103 #[.pointer (some ⟨f, 0, none⟩)]) :
    Calls Tryz.prog 85 #[.pointer (some ⟨cR, 0, none⟩), .pointer (some ⟨cF, 0, none⟩)] w (TakenF r f nm (tokS 4) A0 l w) := by
  have HN := Lib.hid (name_any r 4 l (by decide) (by decide) (by omega) own_a w h)
  have e0 := (hR.cell 0).trans (show _ = some (.pointer (some ⟨r, 0, none⟩)) from rfl)
  have n1 : f ≠ r := fun e => hf.ne_ h (by decide) e
  have n2 : cF ≠ r := fun e => hF.ne_ h (by decide) e
  have n3 : cF ≠ f := fun e => hF.ne_ hf (by decide) e
  have H0 := Lib.hid (And.intro hf (And.intro hF (And.intro n1 (And.intro n2 n3))))
  obtain ⟨S, hS⟩ : ∃ S, S = tokS 4 := ⟨_, rfl⟩
  obtain ⟨A, hA⟩ : ∃ A, A = tokA 4 := ⟨_, rfl⟩
  rw [← hS, ← hA] at HN
  rw [← hS]
  clear hf hF hR h n1 n2 n3 hS hA
  go_enter Tryz.func85, Tryz.ntmps85
  go_wp2_with fail
  refine HN.out.mono ?_
  rintro _ w4 ⟨rfl, hR4, hT4⟩
  have H4 : Hid (Blk w4 f 118 #[.string nm, .slice none 0 0, .pointer none, vi A0, .slice none 0 0] ∧ RT w4 r 5 l ∧ Tn [r] w w4) := Lib.hid ⟨H0.out.1.tn hT4 (by simp; exact H0.out.2.2.1), hR4, hT4⟩
  have hF4 := H0.out.2.1.tn hT4 (by simp; exact H0.out.2.2.2.1)
  have HF4 := Lib.hid (And.intro hF4 H0.out.2.2.2.2)
  have KSf : Hid (∀ W, Tn [f] w4 W → W.cell? ⟨cF, 0, none⟩ = some (.pointer (some ⟨f, 0, none⟩))) := Lib.hid fun W hW => ((HF4.out.1.tn hW (by simp; exact HF4.out.2)).cell 0).trans rfl
  have KS : Hid (∀ W, Tn [] w4 W → W.cell? ⟨cF, 0, none⟩ = some (.pointer (some ⟨f, 0, none⟩))) := Lib.hid fun W hW => ((HF4.out.1.tn hW (by simp)).cell 0).trans rfl
  have KC : Hid (∀ W, Tn [] w4 W → W.cell? ⟨f, 1, none⟩ = some (.slice none 0 0) ∧ W.cell? ⟨f, 4, none⟩ = some (.slice none 0 0)) := Lib.hid fun W hW => ⟨((H4.out.1.tn hW (by simp)).cell 1).trans rfl, ((H4.out.1.tn hW (by simp)).cell 4).trans rfl⟩
  clear hR4 hT4 hF4 e0
  go_upto_region 1 with (fail)
  refine wp_region_N (S := fun W => W.cell? ⟨cF, 0, none⟩ = some (.pointer (some ⟨f, 0, none⟩))) (C := fun W => W.cell? ⟨f, 1, none⟩ = some (.slice none 0 0) ∧ W.cell? ⟨f, 4, none⟩ = some (.slice none 0 0)) 18 (by kernel_rfl) ?_
  obtain ⟨wd, hwd⟩ : ∃ X, X = w4.drew := ⟨_, rfl⟩
  rw [← hwd]
  have Twd : Hid (Tn [] w4 wd ∧ True) := Lib.hid ⟨by rw [hwd]; exact (Tn.refl _ _).drew, trivial⟩
  have xs := KS.out _ Twd.out.1
  have xc := KC.out _ Twd.out.1
  clear hwd
  refine wpAnyN_takeS (i := 0) rfl rfl (by kernel_rfl) (by kernel_rfl) (by kernel_rfl) (fun _ _ _ h => h) (by decide) (Or.inl ⟨by rfl, by (intro w hSw; (try dsimp only at hSw); go_simp; try with_reducible rfl)⟩) (by assumption) (fun _ => by assumption) ?_
  (try simp only [Act.put, List.setIfInBounds_toArray, List.set_cons_zero, List.set_cons_succ])
  refine wpAnyN_takeS (i := 1) rfl rfl (by kernel_rfl) (by kernel_rfl) (by kernel_rfl) (fun _ _ _ h => h) (by decide) (Or.inl ⟨by rfl, by (intro w hSw; (try dsimp only at hSw); go_simp; try with_reducible rfl)⟩) (by assumption) (fun _ => by assumption) ?_
  (try simp only [Act.put, List.setIfInBounds_toArray, List.set_cons_zero, List.set_cons_succ])
  refine wpAnyN_takeS (i := 2) rfl rfl (by kernel_rfl) (by kernel_rfl) (by kernel_rfl) (fun _ _ _ h => h) (by decide) (Or.inl ⟨by rfl, by (intro w hSw; (try dsimp only at hSw); go_simp; try with_reducible rfl)⟩) (by assumption) (fun _ => by assumption) ?_
  (try simp only [Act.put, List.setIfInBounds_toArray, List.set_cons_zero, List.set_cons_succ])
  refine wpAnyN_takeS (i := 9) rfl rfl (by kernel_rfl) (by kernel_rfl) (by kernel_rfl) (fun _ _ _ h => h) (by decide) (Or.inl ⟨by rfl, by (intro w hSw; (try dsimp only at hSw); go_simp; try with_reducible rfl)⟩) (by assumption) (fun _ => by assumption) ?_
  (try simp only [Act.put, List.setIfInBounds_toArray, List.set_cons_zero, List.set_cons_succ])
  refine wpAnyN_takeS (i := 3) rfl rfl (by kernel_rfl) (by kernel_rfl) (by kernel_rfl) (fun _ _ _ h => h) (by decide) (Or.inl ⟨by rfl, by (intro w hSw; (try dsimp only at hSw); go_simp; try with_reducible rfl)⟩) (by assumption) (fun _ => by assumption) ?_
  (try simp only [Act.put, List.setIfInBounds_toArray, List.set_cons_zero, List.set_cons_succ])
  refine wpAnyN_takeS (i := 4) rfl rfl (by kernel_rfl) (by kernel_rfl) (by kernel_rfl) (fun _ _ _ h => h) (by decide) (Or.inl ⟨by rfl, by (intro w hSw; (try dsimp only at hSw); go_simp; try with_reducible rfl)⟩) (by assumption) (fun _ => by assumption) ?_
  (try simp only [Act.put, List.setIfInBounds_toArray, List.set_cons_zero, List.set_cons_succ])
  refine wpAnyN_takeS (i := 6) rfl rfl (by kernel_rfl) (by kernel_rfl) (by kernel_rfl) (fun _ _ _ h => h) (by decide) (Or.inl ⟨by rfl, by (intro w hSw; (try dsimp only at hSw); go_simp; try with_reducible rfl)⟩) (by assumption) (fun _ => by assumption) ?_
  (try simp only [Act.put, List.setIfInBounds_toArray, List.set_cons_zero, List.set_cons_succ])
  refine wpAnyN_takeS (i := 10) rfl rfl (by kernel_rfl) (by kernel_rfl) (by kernel_rfl) (fun _ _ _ h => h) (by decide) (Or.inl ⟨by rfl, by (intro w hSw; (try dsimp only at hSw); go_simp; try with_reducible rfl)⟩) (by assumption) (fun _ => by assumption) ?_
  (try simp only [Act.put, List.setIfInBounds_toArray, List.set_cons_zero, List.set_cons_succ])
  refine wpAnyN_takeS (i := 11) rfl rfl (by kernel_rfl) (by kernel_rfl) (by kernel_rfl) (fun _ _ _ h => h) (by decide) (Or.inl ⟨by rfl, by (intro w hSw; (try dsimp only at hSw); go_simp; try with_reducible rfl)⟩) (by assumption) (fun _ => by assumption) ?_
  (try simp only [Act.put, List.setIfInBounds_toArray, List.set_cons_zero, List.set_cons_succ])
  refine wpAnyN_takeS (i := 13) rfl rfl (by kernel_rfl) (by kernel_rfl) (by kernel_rfl) (fun _ _ _ h => h) (by decide) (Or.inl ⟨by rfl, by (intro w hSw; (try dsimp only at hSw); go_simp; try with_reducible rfl)⟩) (by assumption) (fun _ => by assumption) ?_
  (try simp only [Act.put, List.setIfInBounds_toArray, List.set_cons_zero, List.set_cons_succ])
  refine wpAnyN_take (i := 5) rfl rfl (by kernel_rfl) (by kernel_rfl) (by kernel_rfl) (fun _ _ _ h => h) (by decide) (by kernel_rfl) (by kernel_rfl) (Or.inl ⟨by rfl, by (intro w hSw; (try dsimp only at hSw); go_simp; try with_reducible rfl)⟩) (by assumption) (by assumption) ?_
  (try simp only [Act.put, List.setIfInBounds_toArray, List.set_cons_zero, List.set_cons_succ])
  refine wpAnyN_take (i := 12) rfl rfl (by kernel_rfl) (by kernel_rfl) (by kernel_rfl) (fun _ _ _ h => h) (by decide) (by kernel_rfl) (by kernel_rfl) (Or.inl ⟨by rfl, by (intro w hSw; (try dsimp only at hSw); go_simp; try with_reducible rfl)⟩) (by assumption) (by assumption) ?_
  (try simp only [Act.put, List.setIfInBounds_toArray, List.set_cons_zero, List.set_cons_succ])
  refine wpAnyN_ready (rs := [7, 14]) (by kernel_rfl) (by simp) (AllReadyN.cons rfl (fun K hK => ?_) (AllReadyN.cons rfl (fun K hK => ?_) (AllReadyN.nil)))
  · go_simp
    obtain ⟨waa, hwaa⟩ : ∃ X, X = (wd).alloc (.cells #[.string S] 9) := ⟨_, rfl⟩
    rw [← hwaa]
    have Twaa : Hid (Tn [] w4 waa ∧ Tn [] wd waa ∧ Blk waa (wd).heap.size 9 #[.string S]) := Lib.hid ⟨by rw [hwaa]; exact Twd.out.1.alloc _, by rw [hwaa]; exact (Tn.refl _ _).alloc _, by rw [hwaa]; exact Blk.new _ _ _⟩
    have xs := KS.out _ Twaa.out.1
    have xc := KC.out _ Twaa.out.1
    clear hwaa
    refine hK.out _ _ xs (fun _ => xc) ?_
    clear hK K
    (try simp only [Act.put, List.setIfInBounds_toArray, List.set_cons_zero, List.set_cons_succ])
    refine wpAnyN_ready (rs := [8, 14]) (by kernel_rfl) (by simp) (AllReadyN.cons rfl (fun K hK => ?_) (AllReadyN.cons rfl (fun K hK => ?_) (AllReadyN.nil)))
    · refine step_appSG 115 9 _ 1 16 Tryz.underlying115 info_str (by rfl) (by omega) waa (wd).heap.size [.string S] (by rfl) (by simp [Value.oneCell']) (by rfl) _ _ (by rfl) w4.heap.size (.slice none 0 0) 0 [] (by rfl) (by rfl) (by
        intro j u hj
        rw [Blk.cell Twaa.out.2.2 j]
        simpa using hj) (World.ownsRow_nil _ _ _ _) (by simp [maxLen]) (by omega) Twaa.out.1.size ?_
      intro v1 wab p1 p2 p3
      have Twab : Hid (Tn [] w4 wab ∧ Tn [] waa wab ∧ (wab).ownsRow w4.heap.size 9 1 v1 1 [.string S]) := Lib.hid ⟨Twaa.out.1.grown p2 (fun k hk => by cases hk), (Tn.refl [] _).grown p2 (fun k hk => by cases hk), p1⟩
      have xs := KS.out _ Twab.out.1
      have xc := KC.out _ Twab.out.1
      clear p1 p2 p3
      change K (Act.put _ (some 17) _) _
      refine hK.out _ _ xs (fun _ => xc) ?_
      clear hK K
      (try simp only [Act.put, List.setIfInBounds_toArray, List.set_cons_zero, List.set_cons_succ])
      refine wpAnyN_ready (rs := [14]) (by kernel_rfl) (by simp) (AllReadyN.cons rfl (fun K hK => ?_) AllReadyN.nil)
      go_simp
      obtain ⟨wac, hwac⟩ : ∃ X, X = (wab).alloc (.cells #[vi A] 3) := ⟨_, rfl⟩
      rw [← hwac]
      have Twac : Hid (Tn [] w4 wac ∧ Tn [] wab wac ∧ Blk wac (wab).heap.size 3 #[vi A]) := Lib.hid ⟨by rw [hwac]; exact Twab.out.1.alloc _, by rw [hwac]; exact (Tn.refl _ _).alloc _, by rw [hwac]; exact Blk.new _ _ _⟩
      have xs := KS.out _ Twac.out.1
      have xc := KC.out _ Twac.out.1
      clear hwac
      refine hK.out _ _ xs (fun _ => xc) ?_
      clear hK K
      (try simp only [Act.put, List.setIfInBounds_toArray, List.set_cons_zero, List.set_cons_succ])
      refine wpAnyN_ready (rs := [15]) (by kernel_rfl) (by simp) (AllReadyN.cons rfl (fun K hK => ?_) AllReadyN.nil)
      refine step_appSG 26 3 _ 1 8 Tryz.underlying26 info_int (by rfl) (by omega) wac (wab).heap.size [vi A] (by rfl) (by simp [Value.oneCell']) (by rfl) _ _ (by rfl) w4.heap.size (.slice none 0 0) 0 [] (by rfl) (by rfl) (by
        intro j u hj
        rw [Blk.cell Twac.out.2.2 j]
        simpa using hj) (World.ownsRow_nil _ _ _ _) (by simp [maxLen]) (by omega) Twac.out.1.size ?_
      intro v2 wad p1 p2 p3
      have Twad : Hid (Tn [] w4 wad ∧ Tn [] wac wad ∧ (wad).ownsRow w4.heap.size 3 1 v2 1 [vi A]) := Lib.hid ⟨Twac.out.1.grown p2 (fun k hk => by cases hk), (Tn.refl [] _).grown p2 (fun k hk => by cases hk), p1⟩
      have xs := KS.out _ Twad.out.1
      have xc := KC.out _ Twad.out.1
      clear p1 p2 p3
      change K (Act.put _ (some 24) _) _
      refine hK.out _ _ xs (fun _ => xc) ?_
      clear hK K
      (try simp only [Act.put, List.setIfInBounds_toArray, List.set_cons_zero, List.set_cons_succ])
      refine wpAnyN_takeS (i := 16) rfl rfl (by kernel_rfl) (by kernel_rfl) (by kernel_rfl) (fun _ _ _ h => h) (by decide) (Or.inl ⟨by rfl, by (intro w hSw; (try dsimp only at hSw); go_simp; try with_reducible rfl)⟩) (by assumption) (fun _ => by assumption) ?_
      (try simp only [Act.put, List.setIfInBounds_toArray, List.set_cons_zero, List.set_cons_succ])
      refine wpAnyN_takeS (i := 17) rfl rfl (by kernel_rfl) (by kernel_rfl) (by kernel_rfl) (fun _ _ _ h => h) (by decide) (Or.inl ⟨by rfl, by (intro w hSw; (try dsimp only at hSw); go_simp; try with_reducible rfl)⟩) (by assumption) (fun _ => by assumption) ?_
      (try simp only [Act.put, List.setIfInBounds_toArray, List.set_cons_zero, List.set_cons_succ])
      obtain ⟨g1, k1, cu1, hv1, hg1, hB1, hc1⟩ := row1_at Twab.out.2.2
      have hB1' : Blk wad g1 9 cu1 := (Blk.tn (Blk.tn hB1 Twac.out.2.1 (by simp)) Twad.out.2.1 (by simp))
      subst hv1
      have hF := Twad.out.1
      have hBf := H4.out.1.tn hF (by simp)
      have f1 := hBf.frozen 1
      have y1 := (hBf.cell 1).trans (show _ = some (.slice none 0 0) from rfl)
      obtain ⟨g2, k2, cu2, hv2, hg2, hB2, hc2⟩ := row1_at Twad.out.2.2
      subst hv2
      refine wpAnyN_ready (rs := [18]) (by kernel_rfl) (by simp) (AllReadyN.cons rfl (fun K hK => ?_) AllReadyN.nil)
      go_simp
      obtain ⟨w7, hw7⟩ : ∃ X, X = wad.setCell ⟨f, 1, none⟩ (.slice (some ⟨g1, 0, none⟩) 1 k1) := ⟨_, rfl⟩
      rw [← hw7]
      have hT7 : Tn [f] w4 w7 := by rw [hw7]; exact (hF.more (by simp)).setCell (.inl (by simp)) _
      have hBf7 : Blk w7 f 118 #[.string nm, .slice (some ⟨g1, 0, none⟩) 1 k1, .pointer none, vi A0, .slice none 0 0] := by rw [hw7]; exact hBf.set_ 1 _
      have hB17 : Blk w7 g1 9 cu1 := by rw [hw7]; exact (Below.heap_setCell _ ⟨f, 1, none⟩ _ g1 (fun e => hB1'.ne_ hBf (by decide) e)).trans hB1'
      have H7 := Lib.hid (And.intro hT7 (And.intro hBf7 (And.intro hB17 hc1)))
      have xs := KSf.out _ hT7
      clear hT7 hBf7 hB17 hw7 f1 y1 xc hBf hB1' hB1 hB2 hF hc1 hc2
      refine hK.out _ _ xs (fun h => absurd h (by decide)) ?_
      clear hK K
      (try simp only [Act.put, List.setIfInBounds_toArray, List.set_cons_zero, List.set_cons_succ])
      refine wpAnyN_takeS (i := 19) rfl rfl (by kernel_rfl) (by kernel_rfl) (by kernel_rfl) (fun _ _ _ h => h) (by decide) (Or.inl ⟨by rfl, by (intro w hSw; (try dsimp only at hSw); go_simp; try with_reducible rfl)⟩) (by assumption) (fun h => absurd h (by decide)) ?_
      (try simp only [Act.put, List.setIfInBounds_toArray, List.set_cons_zero, List.set_cons_succ])
      refine wpAnyN_takeS (i := 20) rfl rfl (by kernel_rfl) (by kernel_rfl) (by kernel_rfl) (fun _ _ _ h => h) (by decide) (Or.inl ⟨by rfl, by (intro w hSw; (try dsimp only at hSw); go_simp; try with_reducible rfl)⟩) (by assumption) (fun h => absurd h (by decide)) ?_
      (try simp only [Act.put, List.setIfInBounds_toArray, List.set_cons_zero, List.set_cons_succ])
      have f4 := H7.out.2.1.frozen 4
      have y4 := (H7.out.2.1.cell 4).trans (show _ = some (.slice none 0 0) from rfl)
      refine wpAnyN_ready (rs := [21]) (by kernel_rfl) (by simp) (AllReadyN.cons rfl (fun K hK => ?_) AllReadyN.nil)
      go_simp
      obtain ⟨w8, hw8⟩ : ∃ X, X = w7.setCell ⟨f, 4, none⟩ (.slice (some ⟨g2, 0, none⟩) 1 k2) := ⟨_, rfl⟩
      rw [← hw8]
      have hT8 : Tn [f] w4 w8 := by rw [hw8]; exact H7.out.1.setCell (.inl (by simp)) _
      have hBf8 : Blk w8 f 118 #[.string nm, .slice (some ⟨g1, 0, none⟩) 1 k1, .pointer none, vi A0, .slice (some ⟨g2, 0, none⟩) 1 k2] := by rw [hw8]; exact H7.out.2.1.set_ 4 _
      have hB18 : Blk w8 g1 9 cu1 := by rw [hw8]; exact (Below.heap_setCell _ ⟨f, 4, none⟩ _ g1 (fun e => H7.out.2.2.1.ne_ H7.out.2.1 (by decide) e)).trans H7.out.2.2.1
      have xs := KSf.out _ hT8
      have HF8 := Lib.hid (And.intro hT8 (And.intro hBf8 hB18))
      clear hT8 hBf8 hB18 hw8 f4 y4
      refine hK.out _ _ xs (fun h => absurd h (by decide)) ?_
      clear hK K
      (try simp only [Act.put, List.setIfInBounds_toArray, List.set_cons_zero, List.set_cons_succ])
      refine wpAnyN_done (by kernel_rfl) ?_ _
      refine ⟨rfl, _, results_none rfl _ _ _, rfl, g1, k1, cu1, _, HF8.out.2.1, HF8.out.2.2, H7.out.2.2.2, H4.out.2.1.tn HF8.out.1 (by simp; exact fun e => H4.out.2.1.ne_ H4.out.1 (by decide) e), (H4.out.2.2.more (by simp)).trans (HF8.out.1.more (by simp))⟩
    · go_simp
      obtain ⟨wae, hwae⟩ : ∃ X, X = (waa).alloc (.cells #[vi A] 3) := ⟨_, rfl⟩
      rw [← hwae]
      have Twae : Hid (Tn [] w4 wae ∧ Tn [] waa wae ∧ Blk wae (waa).heap.size 3 #[vi A]) := Lib.hid ⟨by rw [hwae]; exact Twaa.out.1.alloc _, by rw [hwae]; exact (Tn.refl _ _).alloc _, by rw [hwae]; exact Blk.new _ _ _⟩
      have xs := KS.out _ Twae.out.1
      have xc := KC.out _ Twae.out.1
      clear hwae
      refine hK.out _ _ xs (fun _ => xc) ?_
      clear hK K
      (try simp only [Act.put, List.setIfInBounds_toArray, List.set_cons_zero, List.set_cons_succ])
      refine wpAnyN_ready (rs := [8]) (by kernel_rfl) (by simp) (AllReadyN.cons rfl (fun K hK => ?_) AllReadyN.nil)
      refine step_appSG 115 9 _ 1 16 Tryz.underlying115 info_str (by rfl) (by omega) wae (wd).heap.size [.string S] (by rfl) (by simp [Value.oneCell']) (by rfl) _ _ (by rfl) w4.heap.size (.slice none 0 0) 0 [] (by rfl) (by rfl) (by
        intro j u hj
        rw [Blk.cell (Blk.tn Twaa.out.2.2 Twae.out.2.1 (by simp)) j]
        simpa using hj) (World.ownsRow_nil _ _ _ _) (by simp [maxLen]) (by omega) Twae.out.1.size ?_
      intro v1 waf p1 p2 p3
      have Twaf : Hid (Tn [] w4 waf ∧ Tn [] wae waf ∧ (waf).ownsRow w4.heap.size 9 1 v1 1 [.string S]) := Lib.hid ⟨Twae.out.1.grown p2 (fun k hk => by cases hk), (Tn.refl [] _).grown p2 (fun k hk => by cases hk), p1⟩
      have xs := KS.out _ Twaf.out.1
      have xc := KC.out _ Twaf.out.1
      clear p1 p2 p3
      change K (Act.put _ (some 17) _) _
      refine hK.out _ _ xs (fun _ => xc) ?_
      clear hK K
      (try simp only [Act.put, List.setIfInBounds_toArray, List.set_cons_zero, List.set_cons_succ])
      refine wpAnyN_ready (rs := [15]) (by kernel_rfl) (by simp) (AllReadyN.cons rfl (fun K hK => ?_) AllReadyN.nil)
      refine step_appSG 26 3 _ 1 8 Tryz.underlying26 info_int (by rfl) (by omega) waf (waa).heap.size [vi A] (by rfl) (by simp [Value.oneCell']) (by rfl) _ _ (by rfl) w4.heap.size (.slice none 0 0) 0 [] (by rfl) (by rfl) (by
        intro j u hj
        rw [Blk.cell (Blk.tn Twae.out.2.2 Twaf.out.2.1 (by simp)) j]
        simpa using hj) (World.ownsRow_nil _ _ _ _) (by simp [maxLen]) (by omega) Twaf.out.1.size ?_
      intro v2 wag p1 p2 p3
      have Twag : Hid (Tn [] w4 wag ∧ Tn [] waf wag ∧ (wag).ownsRow w4.heap.size 3 1 v2 1 [vi A]) := Lib.hid ⟨Twaf.out.1.grown p2 (fun k hk => by cases hk), (Tn.refl [] _).grown p2 (fun k hk => by cases hk), p1⟩
      have xs := KS.out _ Twag.out.1
      have xc := KC.out _ Twag.out.1
      clear p1 p2 p3
      change K (Act.put _ (some 24) _) _
      refine hK.out _ _ xs (fun _ => xc) ?_
      clear hK K
      (try simp only [Act.put, List.setIfInBounds_toArray, List.set_cons_zero, List.set_cons_succ])
      refine wpAnyN_takeS (i := 16) rfl rfl (by kernel_rfl) (by kernel_rfl) (by kernel_rfl) (fun _ _ _ h => h) (by decide) (Or.inl ⟨by rfl, by (intro w hSw; (try dsimp only at hSw); go_simp; try with_reducible rfl)⟩) (by assumption) (fun _ => by assumption) ?_
      (try simp only [Act.put, List.setIfInBounds_toArray, List.set_cons_zero, List.set_cons_succ])
      refine wpAnyN_takeS (i := 17) rfl rfl (by kernel_rfl) (by kernel_rfl) (by kernel_rfl) (fun _ _ _ h => h) (by decide) (Or.inl ⟨by rfl, by (intro w hSw; (try dsimp only at hSw); go_simp; try with_reducible rfl)⟩) (by assumption) (fun _ => by assumption) ?_
      (try simp only [Act.put, List.setIfInBounds_toArray, List.set_cons_zero, List.set_cons_succ])
      obtain ⟨g1, k1, cu1, hv1, hg1, hB1, hc1⟩ := row1_at Twaf.out.2.2
      have hB1' : Blk wag g1 9 cu1 := (Blk.tn hB1 Twag.out.2.1 (by simp))
      subst hv1
      have hF := Twag.out.1
      have hBf := H4.out.1.tn hF (by simp)
      have f1 := hBf.frozen 1
      have y1 := (hBf.cell 1).trans (show _ = some (.slice none 0 0) from rfl)
      obtain ⟨g2, k2, cu2, hv2, hg2, hB2, hc2⟩ := row1_at Twag.out.2.2
      subst hv2
      refine wpAnyN_ready (rs := [18]) (by kernel_rfl) (by simp) (AllReadyN.cons rfl (fun K hK => ?_) AllReadyN.nil)
      go_simp
      obtain ⟨w7, hw7⟩ : ∃ X, X = wag.setCell ⟨f, 1, none⟩ (.slice (some ⟨g1, 0, none⟩) 1 k1) := ⟨_, rfl⟩
      rw [← hw7]
      have hT7 : Tn [f] w4 w7 := by rw [hw7]; exact (hF.more (by simp)).setCell (.inl (by simp)) _
      have hBf7 : Blk w7 f 118 #[.string nm, .slice (some ⟨g1, 0, none⟩) 1 k1, .pointer none, vi A0, .slice none 0 0] := by rw [hw7]; exact hBf.set_ 1 _
      have hB17 : Blk w7 g1 9 cu1 := by rw [hw7]; exact (Below.heap_setCell _ ⟨f, 1, none⟩ _ g1 (fun e => hB1'.ne_ hBf (by decide) e)).trans hB1'
      have H7 := Lib.hid (And.intro hT7 (And.intro hBf7 (And.intro hB17 hc1)))
      have xs := KSf.out _ hT7
      clear hT7 hBf7 hB17 hw7 f1 y1 xc hBf hB1' hB1 hB2 hF hc1 hc2
      refine hK.out _ _ xs (fun h => absurd h (by decide)) ?_
      clear hK K
      (try simp only [Act.put, List.setIfInBounds_toArray, List.set_cons_zero, List.set_cons_succ])
      refine wpAnyN_takeS (i := 19) rfl rfl (by kernel_rfl) (by kernel_rfl) (by kernel_rfl) (fun _ _ _ h => h) (by decide) (Or.inl ⟨by rfl, by (intro w hSw; (try dsimp only at hSw); go_simp; try with_reducible rfl)⟩) (by assumption) (fun h => absurd h (by decide)) ?_
      (try simp only [Act.put, List.setIfInBounds_toArray, List.set_cons_zero, List.set_cons_succ])
      refine wpAnyN_takeS (i := 20) rfl rfl (by kernel_rfl) (by kernel_rfl) (by kernel_rfl) (fun _ _ _ h => h) (by decide) (Or.inl ⟨by rfl, by (intro w hSw; (try dsimp only at hSw); go_simp; try with_reducible rfl)⟩) (by assumption) (fun h => absurd h (by decide)) ?_
      (try simp only [Act.put, List.setIfInBounds_toArray, List.set_cons_zero, List.set_cons_succ])
      have f4 := H7.out.2.1.frozen 4
      have y4 := (H7.out.2.1.cell 4).trans (show _ = some (.slice none 0 0) from rfl)
      refine wpAnyN_ready (rs := [21]) (by kernel_rfl) (by simp) (AllReadyN.cons rfl (fun K hK => ?_) AllReadyN.nil)
      go_simp
      obtain ⟨w8, hw8⟩ : ∃ X, X = w7.setCell ⟨f, 4, none⟩ (.slice (some ⟨g2, 0, none⟩) 1 k2) := ⟨_, rfl⟩
      rw [← hw8]
      have hT8 : Tn [f] w4 w8 := by rw [hw8]; exact H7.out.1.setCell (.inl (by simp)) _
      have hBf8 : Blk w8 f 118 #[.string nm, .slice (some ⟨g1, 0, none⟩) 1 k1, .pointer none, vi A0, .slice (some ⟨g2, 0, none⟩) 1 k2] := by rw [hw8]; exact H7.out.2.1.set_ 4 _
      have hB18 : Blk w8 g1 9 cu1 := by rw [hw8]; exact (Below.heap_setCell _ ⟨f, 4, none⟩ _ g1 (fun e => H7.out.2.2.1.ne_ H7.out.2.1 (by decide) e)).trans H7.out.2.2.1
      have xs := KSf.out _ hT8
      have HF8 := Lib.hid (And.intro hT8 (And.intro hBf8 hB18))
      clear hT8 hBf8 hB18 hw8 f4 y4
      refine hK.out _ _ xs (fun h => absurd h (by decide)) ?_
      clear hK K
      (try simp only [Act.put, List.setIfInBounds_toArray, List.set_cons_zero, List.set_cons_succ])
      refine wpAnyN_done (by kernel_rfl) ?_ _
      refine ⟨rfl, _, results_none rfl _ _ _, rfl, g1, k1, cu1, _, HF8.out.2.1, HF8.out.2.2, H7.out.2.2.2, H4.out.2.1.tn HF8.out.1 (by simp; exact fun e => H4.out.2.1.ne_ H4.out.1 (by decide) e), (H4.out.2.2.more (by simp)).trans (HF8.out.1.more (by simp))⟩
  · go_simp
    obtain ⟨wah, hwah⟩ : ∃ X, X = (wd).alloc (.cells #[vi A] 3) := ⟨_, rfl⟩
    rw [← hwah]
    have Twah : Hid (Tn [] w4 wah ∧ Tn [] wd wah ∧ Blk wah (wd).heap.size 3 #[vi A]) := Lib.hid ⟨by rw [hwah]; exact Twd.out.1.alloc _, by rw [hwah]; exact (Tn.refl _ _).alloc _, by rw [hwah]; exact Blk.new _ _ _⟩
    have xs := KS.out _ Twah.out.1
    have xc := KC.out _ Twah.out.1
    clear hwah
    refine hK.out _ _ xs (fun _ => xc) ?_
    clear hK K
    (try simp only [Act.put, List.setIfInBounds_toArray, List.set_cons_zero, List.set_cons_succ])
    refine wpAnyN_ready (rs := [7]) (by kernel_rfl) (by simp) (AllReadyN.cons rfl (fun K hK => ?_) AllReadyN.nil)
    go_simp
    obtain ⟨wai, hwai⟩ : ∃ X, X = (wah).alloc (.cells #[.string S] 9) := ⟨_, rfl⟩
    rw [← hwai]
    have Twai : Hid (Tn [] w4 wai ∧ Tn [] wah wai ∧ Blk wai (wah).heap.size 9 #[.string S]) := Lib.hid ⟨by rw [hwai]; exact Twah.out.1.alloc _, by rw [hwai]; exact (Tn.refl _ _).alloc _, by rw [hwai]; exact Blk.new _ _ _⟩
    have xs := KS.out _ Twai.out.1
    have xc := KC.out _ Twai.out.1
    clear hwai
    refine hK.out _ _ xs (fun _ => xc) ?_
    clear hK K
    (try simp only [Act.put, List.setIfInBounds_toArray, List.set_cons_zero, List.set_cons_succ])
    refine wpAnyN_ready (rs := [8]) (by kernel_rfl) (by simp) (AllReadyN.cons rfl (fun K hK => ?_) AllReadyN.nil)
    refine step_appSG 115 9 _ 1 16 Tryz.underlying115 info_str (by rfl) (by omega) wai (wah).heap.size [.string S] (by rfl) (by simp [Value.oneCell']) (by rfl) _ _ (by rfl) w4.heap.size (.slice none 0 0) 0 [] (by rfl) (by rfl) (by
      intro j u hj
      rw [Blk.cell Twai.out.2.2 j]
      simpa using hj) (World.ownsRow_nil _ _ _ _) (by simp [maxLen]) (by omega) Twai.out.1.size ?_
    intro v1 waj p1 p2 p3
    have Twaj : Hid (Tn [] w4 waj ∧ Tn [] wai waj ∧ (waj).ownsRow w4.heap.size 9 1 v1 1 [.string S]) := Lib.hid ⟨Twai.out.1.grown p2 (fun k hk => by cases hk), (Tn.refl [] _).grown p2 (fun k hk => by cases hk), p1⟩
    have xs := KS.out _ Twaj.out.1
    have xc := KC.out _ Twaj.out.1
    clear p1 p2 p3
    change K (Act.put _ (some 17) _) _
    refine hK.out _ _ xs (fun _ => xc) ?_
    clear hK K
    (try simp only [Act.put, List.setIfInBounds_toArray, List.set_cons_zero, List.set_cons_succ])
    refine wpAnyN_ready (rs := [15]) (by kernel_rfl) (by simp) (AllReadyN.cons rfl (fun K hK => ?_) AllReadyN.nil)
    refine step_appSG 26 3 _ 1 8 Tryz.underlying26 info_int (by rfl) (by omega) waj (wd).heap.size [vi A] (by rfl) (by simp [Value.oneCell']) (by rfl) _ _ (by rfl) w4.heap.size (.slice none 0 0) 0 [] (by rfl) (by rfl) (by
      intro j u hj
      rw [Blk.cell (Blk.tn (Blk.tn Twah.out.2.2 Twai.out.2.1 (by simp)) Twaj.out.2.1 (by simp)) j]
      simpa using hj) (World.ownsRow_nil _ _ _ _) (by simp [maxLen]) (by omega) Twaj.out.1.size ?_
    intro v2 wak p1 p2 p3
    have Twak : Hid (Tn [] w4 wak ∧ Tn [] waj wak ∧ (wak).ownsRow w4.heap.size 3 1 v2 1 [vi A]) := Lib.hid ⟨Twaj.out.1.grown p2 (fun k hk => by cases hk), (Tn.refl [] _).grown p2 (fun k hk => by cases hk), p1⟩
    have xs := KS.out _ Twak.out.1
    have xc := KC.out _ Twak.out.1
    clear p1 p2 p3
    change K (Act.put _ (some 24) _) _
    refine hK.out _ _ xs (fun _ => xc) ?_
    clear hK K
    (try simp only [Act.put, List.setIfInBounds_toArray, List.set_cons_zero, List.set_cons_succ])
    refine wpAnyN_takeS (i := 16) rfl rfl (by kernel_rfl) (by kernel_rfl) (by kernel_rfl) (fun _ _ _ h => h) (by decide) (Or.inl ⟨by rfl, by (intro w hSw; (try dsimp only at hSw); go_simp; try with_reducible rfl)⟩) (by assumption) (fun _ => by assumption) ?_
    (try simp only [Act.put, List.setIfInBounds_toArray, List.set_cons_zero, List.set_cons_succ])
    refine wpAnyN_takeS (i := 17) rfl rfl (by kernel_rfl) (by kernel_rfl) (by kernel_rfl) (fun _ _ _ h => h) (by decide) (Or.inl ⟨by rfl, by (intro w hSw; (try dsimp only at hSw); go_simp; try with_reducible rfl)⟩) (by assumption) (fun _ => by assumption) ?_
    (try simp only [Act.put, List.setIfInBounds_toArray, List.set_cons_zero, List.set_cons_succ])
    obtain ⟨g1, k1, cu1, hv1, hg1, hB1, hc1⟩ := row1_at Twaj.out.2.2
    have hB1' : Blk wak g1 9 cu1 := (Blk.tn hB1 Twak.out.2.1 (by simp))
    subst hv1
    have hF := Twak.out.1
    have hBf := H4.out.1.tn hF (by simp)
    have f1 := hBf.frozen 1
    have y1 := (hBf.cell 1).trans (show _ = some (.slice none 0 0) from rfl)
    obtain ⟨g2, k2, cu2, hv2, hg2, hB2, hc2⟩ := row1_at Twak.out.2.2
    subst hv2
    refine wpAnyN_ready (rs := [18]) (by kernel_rfl) (by simp) (AllReadyN.cons rfl (fun K hK => ?_) AllReadyN.nil)
    go_simp
    obtain ⟨w7, hw7⟩ : ∃ X, X = wak.setCell ⟨f, 1, none⟩ (.slice (some ⟨g1, 0, none⟩) 1 k1) := ⟨_, rfl⟩
    rw [← hw7]
    have hT7 : Tn [f] w4 w7 := by rw [hw7]; exact (hF.more (by simp)).setCell (.inl (by simp)) _
    have hBf7 : Blk w7 f 118 #[.string nm, .slice (some ⟨g1, 0, none⟩) 1 k1, .pointer none, vi A0, .slice none 0 0] := by rw [hw7]; exact hBf.set_ 1 _
    have hB17 : Blk w7 g1 9 cu1 := by rw [hw7]; exact (Below.heap_setCell _ ⟨f, 1, none⟩ _ g1 (fun e => hB1'.ne_ hBf (by decide) e)).trans hB1'
    have H7 := Lib.hid (And.intro hT7 (And.intro hBf7 (And.intro hB17 hc1)))
    have xs := KSf.out _ hT7
    clear hT7 hBf7 hB17 hw7 f1 y1 xc hBf hB1' hB1 hB2 hF hc1 hc2
    refine hK.out _ _ xs (fun h => absurd h (by decide)) ?_
    clear hK K
    (try simp only [Act.put, List.setIfInBounds_toArray, List.set_cons_zero, List.set_cons_succ])
    refine wpAnyN_takeS (i := 19) rfl rfl (by kernel_rfl) (by kernel_rfl) (by kernel_rfl) (fun _ _ _ h => h) (by decide) (Or.inl ⟨by rfl, by (intro w hSw; (try dsimp only at hSw); go_simp; try with_reducible rfl)⟩) (by assumption) (fun h => absurd h (by decide)) ?_
    (try simp only [Act.put, List.setIfInBounds_toArray, List.set_cons_zero, List.set_cons_succ])
    refine wpAnyN_takeS (i := 20) rfl rfl (by kernel_rfl) (by kernel_rfl) (by kernel_rfl) (fun _ _ _ h => h) (by decide) (Or.inl ⟨by rfl, by (intro w hSw; (try dsimp only at hSw); go_simp; try with_reducible rfl)⟩) (by assumption) (fun h => absurd h (by decide)) ?_
    (try simp only [Act.put, List.setIfInBounds_toArray, List.set_cons_zero, List.set_cons_succ])
    have f4 := H7.out.2.1.frozen 4
    have y4 := (H7.out.2.1.cell 4).trans (show _ = some (.slice none 0 0) from rfl)
    refine wpAnyN_ready (rs := [21]) (by kernel_rfl) (by simp) (AllReadyN.cons rfl (fun K hK => ?_) AllReadyN.nil)
    go_simp
    obtain ⟨w8, hw8⟩ : ∃ X, X = w7.setCell ⟨f, 4, none⟩ (.slice (some ⟨g2, 0, none⟩) 1 k2) := ⟨_, rfl⟩
    rw [← hw8]
    have hT8 : Tn [f] w4 w8 := by rw [hw8]; exact H7.out.1.setCell (.inl (by simp)) _
    have hBf8 : Blk w8 f 118 #[.string nm, .slice (some ⟨g1, 0, none⟩) 1 k1, .pointer none, vi A0, .slice (some ⟨g2, 0, none⟩) 1 k2] := by rw [hw8]; exact H7.out.2.1.set_ 4 _
    have hB18 : Blk w8 g1 9 cu1 := by rw [hw8]; exact (Below.heap_setCell _ ⟨f, 4, none⟩ _ g1 (fun e => H7.out.2.2.1.ne_ H7.out.2.1 (by decide) e)).trans H7.out.2.2.1
    have xs := KSf.out _ hT8
    have HF8 := Lib.hid (And.intro hT8 (And.intro hBf8 hB18))
    clear hT8 hBf8 hB18 hw8 f4 y4
    refine hK.out _ _ xs (fun h => absurd h (by decide)) ?_
    clear hK K
    (try simp only [Act.put, List.setIfInBounds_toArray, List.set_cons_zero, List.set_cons_succ])
    refine wpAnyN_done (by kernel_rfl) ?_ _
    refine ⟨rfl, _, results_none rfl _ _ _, rfl, g1, k1, cu1, _, HF8.out.2.1, HF8.out.2.2, H7.out.2.2.2, H4.out.2.1.tn HF8.out.1 (by simp; exact fun e => H4.out.2.1.ne_ H4.out.1 (by decide) e), (H4.out.2.2.more (by simp)).trans (HF8.out.1.more (by simp))⟩
end Go.Proofs.YtpkhcncempoohaaGreatDoor

namespace Go.Proofs.YtpkhcncempoohaaGreatDoor
open Go.RowKit Zp
def FnP (w : World) (f : Nat) (nm S : ByteArray) (A0 : Int) (B : Value) : Prop := ∃ (g c : Nat) (cu : Array Value) (V : Value), Blk w f 118 #[.string nm, .slice (some ⟨g, 0, none⟩) 1 c, B, vi A0, V] ∧ Blk w g 9 cu ∧ cu[0]? = some (.string S)
theorem FnP.tn {w w' : World} {f : Nat} {nm S : ByteArray} {A0 : Int} {B : Value} (h : FnP w f nm S A0 B) {X : List Nat} (ht : Tn X w w') (hx : ∀ x ∈ X, ∀ t cs, Blk w x t cs → t ≠ 118 ∧ t ≠ 9) : FnP w' f nm S A0 B := by
  obtain ⟨g, c, cu, V, h1, h2, h3⟩ := h
  exact ⟨g, c, cu, V, h1.tn ht (fun hm => (hx f hm _ _ h1).1 rfl), h2.tn ht (fun hm => (hx g hm _ _ h2).2 rfl), h3⟩
set_option maxRecDepth 100000 in
set_option maxHeartbeats 2000000 in
theorem list_any (r f cR cF : Nat) (nm : ByteArray) (A0 : Int) (l : Nat) (hl : l < 60) (w : World) (h : RT w r 3 l) (hf : Blk w f 118 #[.string nm, .slice none 0 0, .pointer none, vi A0, .slice none 0 0]) (hR : Blk w cR 95 #[.pointer (some ⟨r, 0, none⟩)]) (hF : Blk w cF 103 #[.pointer (some ⟨f, 0, none⟩)]) :
    Calls Tryz.prog 84 #[.pointer (some ⟨r, 0, none⟩), .func (.func 85) #[] #[.pointer (some ⟨cR, 0, none⟩), .pointer (some ⟨cF, 0, none⟩)]] w fun e w' => e = .returned (.tuple #[]) ∧ FnP w' f nm ⟨#[97]⟩ A0 (.pointer none) ∧ RT w' r 6 l ∧ Tn [r, f] w w' := by
  have HI1 := Lib.hid (isT_any r 3 l ⟨#[40]⟩)
  rw [show isB 3 ⟨#[40]⟩ = true by decide +kernel] at HI1
  have HEN := Lib.hid (enter_any r 3 l hl (by omega))
  have HI2 := Lib.hid (isT_any r 4 ((l : Int) + 1) ⟨#[41]⟩)
  rw [show isB 4 ⟨#[41]⟩ = false by decide +kernel] at HI2
  have HTK := Lib.hid (fun W h hf hR hF => taken_any r f cR cF nm A0 ((l : Int) + 1) W h hf hR hF)
  have HSK := Lib.hid (skipped_no r 5 ((l : Int) + 1) ⟨#[44]⟩ (by decide +kernel))
  have HMU := Lib.hid (must_yes' r 5 ((l : Int) + 1) ⟨#[41]⟩ (by decide +kernel) (by omega))
  have n1 : f ≠ r := fun e => hf.ne_ h (by decide) e
  have n2 : cR ≠ r := fun e => hR.ne_ h (by decide) e
  have n3 : cF ≠ r := fun e => hF.ne_ h (by decide) e
  have H0 := Lib.hid (And.intro h (And.intro hf (And.intro hR (And.intro hF (And.intro n1 (And.intro n2 n3))))))
  clear h hf hR hF n1 n2 n3
  go_enter Tryz.func84, Tryz.ntmps84
  go_wp2_with fail
  refine (HI1.out w H0.out.1).mono ?_
  rintro _ _ ⟨rfl, rfl⟩
  go_wp2_with fail
  refine (HEN.out w H0.out.1).mono ?_
  rintro _ w1 ⟨rfl, hR1, hT1⟩
  have H1 := Lib.hid (And.intro hR1 (And.intro hT1 (And.intro (H0.out.2.1.tn hT1 (by simp; exact H0.out.2.2.2.2.1)) (And.intro (H0.out.2.2.1.tn hT1 (by simp; exact H0.out.2.2.2.2.2.1)) (H0.out.2.2.2.1.tn hT1 (by simp; exact H0.out.2.2.2.2.2.2))))))
  clear hR1 hT1
  go_wp2_with fail
  refine (HI2.out w1 H1.out.1).mono ?_
  rintro _ _ ⟨rfl, rfl⟩
  go_wp2_with fail
  refine (HTK.out w1 H1.out.1 H1.out.2.2.1 H1.out.2.2.2.1 H1.out.2.2.2.2).mono ?_
  rintro _ w2 ⟨rfl, g, c, cu, V, hB2, hg2, hc2, hR2, hT2⟩
  have H2 : Hid (FnP w2 f nm ⟨#[97]⟩ A0 (.pointer none) ∧ RT w2 r 5 ((l : Int) + 1) ∧ Tn [r, f] w w2) := Lib.hid ⟨⟨g, c, cu, V, hB2, hg2, hc2⟩, hR2, (H1.out.2.1.more (by simp)).trans hT2⟩
  clear hB2 hg2 hc2 hR2 hT2
  go_wp2
  go_loopw [17] (fun _ wr => w2 = wr) (fun _ _ => 0)
  case atStart => exact rfl
  case round =>
    obtain rfl := hrel
    go_wp2_with fail
    refine (HSK.out _ H2.out.2.1).mono ?_
    rintro _ _ ⟨rfl, rfl⟩
    go_wp2_with fail
    refine (HMU.out _ H2.out.2.1).mono ?_
    rintro _ w3 ⟨rfl, hR3, hT3⟩
    have k5 := (Blk.cell hR3 5).trans (show _ = some (vi ((l : Int) + 1)) from rfl)
    have f5 := Blk.frozen hR3 5
    have hw : IntKind.i64.wrap ((l : Int) + 1 - 1) = (l : Int) := by rw [IntWalk.i64_in _ (by constructor <;> omega)]; omega
    have H3 := Lib.hid (And.intro hR3 hT3)
    clear hR3 hT3
    go_wp2
    go_end0
    have hT4 : Tn [r] w3 (w3.setCell ⟨r, 5, none⟩ (vi l)) := (Tn.refl [r] w3).setCell (.inl (by simp)) _
    have hno : ∀ W, RT W r 6 ((l : Int) + 1) ∨ RT W r 5 ((l : Int) + 1) → ∀ x ∈ [r], ∀ t cs, Blk W x t cs → t ≠ 118 ∧ t ≠ 9 := fun W hW x hx t cs hB => by
      simp only [List.mem_singleton] at hx
      subst hx
      rcases hW with hW | hW
      · exact ⟨fun e => by subst e; exact hB.ne_ hW (by decide) rfl, fun e => by subst e; exact hB.ne_ hW (by decide) rfl⟩
      · exact ⟨fun e => by subst e; exact hB.ne_ hW (by decide) rfl, fun e => by subst e; exact hB.ne_ hW (by decide) rfl⟩
    exact ⟨rfl, (H2.out.1.tn H3.out.2 (hno _ (.inr H2.out.2.1))).tn hT4 (hno _ (.inl H3.out.1)), Blk.set_ H3.out.1 5 _, (H2.out.2.2.trans (H3.out.2.more (by simp))).trans (hT4.more (by simp))⟩
def FnT (w : World) (f : Nat) : Prop := ∃ (x : Nat) (A0 : Int), FnP w f ⟨#[109, 97, 105, 110]⟩ ⟨#[97]⟩ A0 (.pointer (some ⟨x, 0, none⟩)) ∧ PT w x treeM
set_option maxRecDepth 100000 in
set_option maxHeartbeats 4000000 in
theorem function_any (r : Nat) (w : World) (h : RT w r 1 ((0 : Nat) : Int)) :
    Calls Tryz.prog 45 #[.pointer (some ⟨r, 0, none⟩)] w fun e w' => ∃ f, e = .returned (.pointer (some ⟨f, 0, none⟩)) ∧ FnT w' f ∧ RT w' r 14 ((0 : Nat) : Int) ∧ Tn [r] w w' := by
  have HM1 := Lib.hid (must_yes' r 1 ((0 : Nat) : Int) ⟨#[102, 110]⟩ (by decide +kernel) (by omega))
  have HN := Lib.hid (name_any r 2 ((0 : Nat) : Int) (by decide) (by decide) (by omega) own_main)
  have HLI := Lib.hid (fun f cR cF A0 W h hf hR hF => list_any r f cR cF ⟨#[109, 97, 105, 110]⟩ A0 0 (by omega) W h hf hR hF)
  have HM2 := Lib.hid (must_yes' r 6 ((0 : Nat) : Int) ⟨#[61]⟩ (by decide +kernel) (by omega))
  have HEX := Lib.hid (expr7 r 0 (by omega))
  obtain ⟨Z, hZ⟩ : ∃ Z : Int, Z = ((0 : Nat) : Int) := ⟨_, rfl⟩
  rw [← hZ] at HM1 HN HLI HM2 HEX h ⊢
  clear hZ
  obtain ⟨S, hS⟩ : ∃ S : ByteArray, S = ⟨#[109, 97, 105, 110]⟩ := ⟨_, rfl⟩
  obtain ⟨A, hA⟩ : ∃ A, A = tokA 2 := ⟨_, rfl⟩
  rw [show tokS 2 = S from hS.symm, ← hA] at HN
  have HSS := Lib.hid hS
  rw [← hS] at HLI
  clear hS hA
  obtain ⟨cR, hc1⟩ : ∃ c, c = w.heap.size := ⟨_, rfl⟩
  obtain ⟨w1, hw1⟩ : ∃ W, W = w.alloc (.cells #[.pointer (some ⟨r, 0, none⟩)] 95) := ⟨_, rfl⟩
  have hb1 : Below w.heap.size w w1 := by rw [hw1]; exact (Below.refl _ _).alloc (Nat.le_refl _) _
  have hB1 : Blk w1 cR 95 #[.pointer (some ⟨r, 0, none⟩)] := by rw [hw1, hc1]; exact Blk.new _ _ _
  have hR1 := h.below hb1
  have e1 := (hB1.cell 0).trans (show _ = some (.pointer (some ⟨r, 0, none⟩)) from rfl)
  have HW1 := Lib.hid (And.intro hw1 hc1)
  have H1 := Lib.hid (And.intro hb1 (And.intro hB1 (And.intro hR1 (show cR ≠ r from fun e => hB1.ne_ hR1 (by decide) e))))
  clear hw1 hc1 hb1 hB1 hR1 h
  go_enter Tryz.func45, Tryz.ntmps45
  go_upto_region 1 with (fail)
  rw [← HW1.out.1, ← HW1.out.2]
  go_wp2_with fail
  refine (HM1.out w1 H1.out.2.2.1).mono ?_
  rintro _ w2 ⟨rfl, hR2, hT2⟩
  have H2 := Lib.hid (And.intro hR2 (And.intro ((Tn.of_below (X := [r]) H1.out.1).trans hT2) (H1.out.2.1.tn hT2 (by simp; exact H1.out.2.2.2))))
  clear hR2 hT2 e1
  go_upto_region 3 with (fail)
  obtain ⟨f, hx⟩ : ∃ c, c = w2.heap.size := ⟨_, rfl⟩
  obtain ⟨cF, hc8⟩ : ∃ c, c = w2.heap.size + 1 := ⟨_, rfl⟩
  obtain ⟨w3, hw3⟩ : ∃ W, W = (w2.alloc (.cells #[.string ⟨#[]⟩, .slice none 0 0, .pointer none, vi 0, .slice none 0 0] 118)).alloc (.cells #[.pointer (some ⟨w2.heap.size, 0, none⟩)] 103) := ⟨_, rfl⟩
  rw [← hw3, ← hc8, ← hx]
  have hb3 : Below w2.heap.size w2 w3 := by rw [hw3]; exact ((Below.refl _ _).alloc (Nat.le_refl _) _).alloc (by simp) _
  have hBx : Blk w3 f 118 #[.string ⟨#[]⟩, .slice none 0 0, .pointer none, vi 0, .slice none 0 0] := by rw [hw3, hx]; exact (Blk.new _ _ _).alloc _
  have hB8 : Blk w3 cF 103 #[.pointer (some ⟨f, 0, none⟩)] := by
    have hh := Blk.new (w2.alloc (.cells #[.string ⟨#[]⟩, .slice none 0 0, .pointer none, vi 0, .slice none 0 0] 118)) 103 #[.pointer (some ⟨w2.heap.size, 0, none⟩)]
    rw [show (w2.alloc (.cells #[.string ⟨#[]⟩, .slice none 0 0, .pointer none, vi 0, .slice none 0 0] 118)).heap.size = w2.heap.size + 1 by simp] at hh
    rw [hw3, hx, hc8]
    exact hh
  have hB13 := H2.out.2.2.below hb3 H2.out.2.2.lt
  have hR3 := H2.out.1.below hb3
  have hn : r ≠ f ∧ r ≠ cF ∧ r ≠ cR ∧ cF ≠ f ∧ cR ≠ f := ⟨hR3.ne_ hBx (by decide), hR3.ne_ hB8 (by decide), hR3.ne_ hB13 (by decide), hB8.ne_ hBx (by decide), hB13.ne_ hBx (by decide)⟩
  have H3 := Lib.hid (And.intro (H2.out.2.1.trans (Tn.of_below hb3)) (And.intro hBx (And.intro hB8 (And.intro hB13 (And.intro hR3 hn)))))
  have hwx : w.heap.size ≤ f := by rw [hx]; exact H2.out.2.1.size
  have HWX := Lib.hid hwx
  clear hw3 hx hc8 hb3 hBx hB8 hB13 hR3 hn hwx
  have KS : Hid (∀ W, Tn [r, f] w3 W → W.cell? ⟨cF, 0, none⟩ = some (.pointer (some ⟨f, 0, none⟩)) ∧ W.cell? ⟨cR, 0, none⟩ = some (.pointer (some ⟨r, 0, none⟩))) := Lib.hid fun W hW => by
    obtain ⟨n1, n2, n3, n4, n5⟩ := H3.out.2.2.2.2.2
    exact ⟨((H3.out.2.2.1.tn hW (by simp; omega)).cell 0).trans rfl, ((H3.out.2.2.2.1.tn hW (by simp; omega)).cell 0).trans rfl⟩
  refine wp_region_held_drew (S := fun W => W.cell? ⟨cF, 0, none⟩ = some (.pointer (some ⟨f, 0, none⟩)) ∧ W.cell? ⟨cR, 0, none⟩ = some (.pointer (some ⟨r, 0, none⟩))) (by kernel_rfl) (KS.out _ ((Tn.refl _ _).drew)) (fun hHeld => ?_)
  refine tkH 0 ?_
  refine tkH 1 ?_
  refine tkH 2 ?_
  refine stH 3 (fun K hK => ?_)
  go_simp
  refine (HN.out w3.drew H3.out.2.2.2.2.1).mono ?_
  rintro _ w4 ⟨rfl, hR4, hT4⟩
  have hT34 : Tn [r, f] w3 w4 := (((Tn.refl [r] w3).drew).trans hT4).more (by simp)
  have hBx4 : Blk w4 f 118 #[.string ⟨#[]⟩, .slice none 0 0, .pointer none, vi 0, .slice none 0 0] := H3.out.2.1.tn (((Tn.refl [r] w3).drew).trans hT4) (by have := H3.out.2.2.2.2.2.1; simp; omega)
  have H4 := Lib.hid (And.intro hT34 (And.intro hBx4 (And.intro hR4 (((Tn.refl [r] w3).drew).trans hT4))))
  clear hT34 hBx4 hR4 hT4
  refine hK.out _ _ (KS.out _ H4.out.1) (fun hHeld => ?_)
  clear hK K
  (try simp only [Act.put, List.setIfInBounds_toArray, List.set_cons_zero, List.set_cons_succ])
  refine tkH 4 ?_
  refine tkH 5 ?_
  refine tkH 6 ?_
  refine tkH 7 ?_
  refine tkH 8 ?_
  have y2 := (H4.out.2.1.cell 0).trans (show _ = some (.string ⟨#[]⟩) from rfl)
  have f2 := H4.out.2.1.frozen 0
  refine stH 9 (fun K hK => ?_)
  go_simp
  obtain ⟨w5, hw5⟩ : ∃ W, W = w4.setCell ⟨f, 0, none⟩ (.string S) := ⟨_, rfl⟩
  rw [← hw5]
  have hT5 : Tn [r, f] w3 w5 := by rw [hw5]; exact H4.out.1.setCell (.inl (by simp)) _
  have hBx5 : Blk w5 f 118 #[.string S, .slice none 0 0, .pointer none, vi 0, .slice none 0 0] := by rw [hw5]; exact H4.out.2.1.set_ 0 _
  have H5 := Lib.hid (And.intro hT5 (And.intro hBx5 hw5))
  clear hT5 hBx5 hw5 y2 f2
  refine hK.out _ _ (KS.out _ H5.out.1) (fun hHeld => ?_)
  clear hK K
  (try simp only [Act.put, List.setIfInBounds_toArray, List.set_cons_zero, List.set_cons_succ])
  refine tkH 10 ?_
  refine tkH 11 ?_
  have y4 := (H5.out.2.1.cell 3).trans (show _ = some (vi 0) from rfl)
  have f4 := H5.out.2.1.frozen 3
  refine stH 12 (fun K hK => ?_)
  go_simp
  obtain ⟨w6, hw6⟩ : ∃ W, W = w5.setCell ⟨f, 3, none⟩ (vi A) := ⟨_, rfl⟩
  rw [← hw6]
  have hT6 : Tn [r, f] w3 w6 := by rw [hw6]; exact H5.out.1.setCell (.inl (by simp)) _
  have hBx6 : Blk w6 f 118 #[.string S, .slice none 0 0, .pointer none, vi A, .slice none 0 0] := by rw [hw6]; exact H5.out.2.1.set_ 3 _
  have hR6 : RT w6 r 3 Z := by
    rw [hw6, H5.out.2.2]
    have hn := H3.out.2.2.2.2.2.1
    exact (Below.heap_setCell _ ⟨f, 3, none⟩ (vi A) r hn).trans ((Below.heap_setCell _ ⟨f, 0, none⟩ (.string S) r hn).trans H4.out.2.2.1)
  have hTw : Tn [r] w w6 := by
    have h1 : Tn [r] w w4 := H3.out.1.trans H4.out.2.2.2
    rw [hw6, H5.out.2.2]
    exact (h1.setCell (.inr HWX.out) _).setCell (.inr HWX.out) _
  have hn := H3.out.2.2.2.2.2
  have H6 := Lib.hid (And.intro hT6 (And.intro hBx6 (And.intro hR6 (And.intro hTw (And.intro (H3.out.2.2.1.tn hT6 (by simp; omega)) (H3.out.2.2.2.1.tn hT6 (by simp; omega)))))))
  clear hT6 hBx6 hR6 hTw hw6 y4 f4 hn
  refine hK.out _ _ (KS.out _ H6.out.1) (fun hHeld => ?_)
  clear hK K
  (try simp only [Act.put, List.setIfInBounds_toArray, List.set_cons_zero, List.set_cons_succ])
  refine wpAnyH_done (by kernel_rfl) ?_ _
  have e6 := (KS.out _ H6.out.1).2
  go_wp2_with fail
  refine (HLI.out f cR cF A w6 H6.out.2.2.1 H6.out.2.1 H6.out.2.2.2.2.2 H6.out.2.2.2.2.1).mono ?_
  rintro _ w7 ⟨rfl, hP7, hR7, hT7⟩
  have e7 := (KS.out _ (H6.out.1.trans hT7)).2
  have H7 := Lib.hid (And.intro hP7 (And.intro hR7 (And.intro (H6.out.1.trans hT7) ((H6.out.2.2.2.1.more (Y := [r, f]) (by simp)).trans hT7))))
  clear hP7 hR7 hT7 e6
  go_wp2_with fail
  refine (HM2.out w7 H7.out.2.1).mono ?_
  rintro _ w8 ⟨rfl, hR8, hT8⟩
  have hno : ∀ W i, RT W r i Z → ∀ x ∈ [r], ∀ t cs, Blk W x t cs → t ≠ 118 ∧ t ≠ 9 := fun W i hW x hx t cs hB => by
    simp only [List.mem_singleton] at hx
    subst hx
    exact ⟨fun e => by subst e; exact hB.ne_ hW (by decide) rfl, fun e => by subst e; exact hB.ne_ hW (by decide) rfl⟩
  have HNO := Lib.hid hno
  have H8 := Lib.hid (And.intro (H7.out.1.tn hT8 (hno _ _ H7.out.2.1)) (And.intro hR8 (And.intro (H7.out.2.2.1.trans (hT8.more (by simp))) (H7.out.2.2.2.trans (hT8.more (by simp))))))
  clear hno hR8 hT8 e7
  go_upto_region 6 with (fail)
  refine wp_region_held_drew (S := fun W => W.cell? ⟨cF, 0, none⟩ = some (.pointer (some ⟨f, 0, none⟩)) ∧ W.cell? ⟨cR, 0, none⟩ = some (.pointer (some ⟨r, 0, none⟩))) (by kernel_rfl) (KS.out _ (H8.out.2.2.1.drew)) (fun hHeld => ?_)
  refine tkH 0 ?_
  refine tkH 1 ?_
  refine stH 2 (fun K hK => ?_)
  go_simp
  refine (HEX.out w8.drew (H8.out.2.1.tn ((Tn.refl [] _).drew) (by simp))).mono ?_
  rintro _ w9 ⟨x, rfl, hP9, hR9, hT9⟩
  have hT89 : Tn [r] w8 w9 := ((Tn.refl [r] w8).drew).trans hT9
  have H9 := Lib.hid (And.intro (H8.out.1.tn hT89 (HNO.out _ _ H8.out.2.1)) (And.intro hP9 (And.intro hR9 (And.intro (H8.out.2.2.1.trans (hT89.more (by simp))) (H8.out.2.2.2.trans (hT89.more (by simp)))))))
  clear hP9 hR9 hT9 hT89
  refine hK.out _ _ (KS.out _ H9.out.2.2.2.1) (fun hHeld => ?_)
  clear hK K
  (try simp only [Act.put, List.setIfInBounds_toArray, List.set_cons_zero, List.set_cons_succ])
  refine tkH 3 ?_
  refine tkH 4 ?_
  obtain ⟨g, c, cu, V, hBf, hBg, hcu⟩ := H9.out.1
  have y2 := (hBf.cell 2).trans (show _ = some (.pointer none) from rfl)
  have f2 := hBf.frozen 2
  have HBf := Lib.hid (And.intro hBf (And.intro hBg hcu))
  clear hBf hBg hcu
  refine stH 5 (fun K hK => ?_)
  go_simp
  obtain ⟨w10, hw10⟩ : ∃ W, W = w9.setCell ⟨f, 2, none⟩ (.pointer (some ⟨x, 0, none⟩)) := ⟨_, rfl⟩
  rw [← hw10]
  have hT10 : Tn [r, f] w3 w10 := by rw [hw10]; exact H9.out.2.2.2.1.setCell (.inl (by simp)) _
  have hF10 : FnP w10 f S ⟨#[97]⟩ A (.pointer (some ⟨x, 0, none⟩)) := ⟨g, c, cu, V, by rw [hw10]; exact HBf.out.1.set_ 2 _, by
    rw [hw10]
    exact (Below.heap_setCell _ ⟨f, 2, none⟩ _ g (fun e => HBf.out.2.1.ne_ HBf.out.1 (by decide) e)).trans HBf.out.2.1, HBf.out.2.2⟩
  have hR10 : RT w10 r 14 Z := by
    rw [hw10]
    exact (Below.heap_setCell _ ⟨f, 2, none⟩ _ r H3.out.2.2.2.2.2.1).trans H9.out.2.2.1
  have hP10 : PT w10 x treeM := by
    rw [hw10]
    refine H9.out.2.1.keep fun g' t cs hg' hty => (Below.heap_setCell _ ⟨f, 2, none⟩ _ g' (fun e => ?_)).trans hg'
    rcases hty with rfl | rfl
    · exact hg'.ne_ HBf.out.1 (by decide) e
    · exact hg'.ne_ HBf.out.1 (by decide) e
  have hTw : Tn [r] w w10 := by
    rw [hw10]
    exact (H9.out.2.2.2.2.setCell (q := ⟨f, 2, none⟩) (.inl (by simp)) _).more (fun k hk => by
      simp at hk
      rcases hk with rfl | rfl
      · exact .inl (by simp)
      · exact .inr HWX.out)
  have e10 := (KS.out _ hT10).1
  have H10 := Lib.hid (And.intro hF10 (And.intro hR10 (And.intro hP10 hTw)))
  have hk10 := KS.out _ hT10
  clear hT10 hF10 hR10 hP10 hTw hw10 y2 f2
  refine hK.out _ _ hk10 (fun hHeld => ?_)
  clear hK K
  (try simp only [Act.put, List.setIfInBounds_toArray, List.set_cons_zero, List.set_cons_succ])
  refine wpAnyH_done (by kernel_rfl) ?_ _
  clear hk10
  go_wp2
  go_ret
  refine ⟨f, rfl, ⟨x, A, ?_, H10.out.2.2.1⟩, H10.out.2.1, H10.out.2.2.2⟩
  rw [← HSS.out]
  exact H10.out.1
end Go.Proofs.YtpkhcncempoohaaGreatDoor

namespace Go.Proofs.YtpkhcncempoohaaGreatDoor
open Go.RowKit Zp
theorem keyed_s : Go.Maps.Keyed Tryz.prog 9 := Go.Maps.string_keyed Tryz.underlying9
theorem zero_b (w : World) : (zeroValue 4).run Tryz.prog w = .ok (.bool false) w := by kernel_rfl
theorem plain_bool_invS {P : Program} {e : TypeId} (he : P.underlying e = some .bool) {v : Value} {z : DataW Unit × List MemPlace} (h : plainElem P e v = some z) : ∃ b, v = .bool b ∧ z.1 = .lit (.bool b) := by
  unfold plainElem at h
  rw [he] at h
  cases v <;> simp at h
  subst h
  exact ⟨_, rfl, rfl⟩
def MapB (w : World) (g n : Nat) (ks : List (List UInt8)) : Prop := ∃ D : DataW Unit, w.ownsMap Tryz.prog 9 (plainElem Tryz.prog 4) g n D ∧ ∀ l, D.atKey (.string l) (.lit (.bool false)) = .lit (.bool (decide (l ∈ ks)))
theorem MapB.made (w : World) : MapB (w.alloc (.map #[] 0)) w.heap.size 0 [] := ⟨_, World.ownsMap_made w _ _ _, fun z => by simp [DataW.atKey]⟩
theorem MapB.lt {w : World} {g n : Nat} {ks : List (List UInt8)} (h : MapB w g n ks) : g < w.heap.size := by
  obtain ⟨D, h1, _⟩ := h
  exact h1.lt
theorem MapB.block {w w' : World} {g n : Nat} {ks : List (List UInt8)} (h : MapB w g n ks) (hb : w'.heap[g]? = w.heap[g]?) : MapB w' g n ks := by
  obtain ⟨D, ⟨es, clock, h1, h2⟩, h3⟩ := h
  exact ⟨D, ⟨es, clock, hb.trans h1, h2⟩, h3⟩
theorem MapB.below {w w' : World} {g n : Nat} {ks : List (List UInt8)} (h : MapB w g n ks) (hb : Below w.heap.size w w') : MapB w' g n ks := h.block (hb.block g h.lt)
set_option maxRecDepth 100000 in
theorem MapB.look {w : World} {g n : Nat} {ks : List (List UInt8)} (h : MapB w g n ks) (s : ByteArray) (hs : s.size ≤ maxLen) :
    (Instr.lookup 153 (.map (some g)) (.string s) false).run Tryz.prog w = .ok (.bool (decide (s.data.toList ∈ ks))) w := by
  obtain ⟨D, h1, h2⟩ := h
  obtain ⟨v, ps, hrun, hv⟩ := h1.lookup keyed_s Tryz.underlying153 (zero_b w) (plainElem_bool Tryz.underlying4 false) (Go.WideMaps.keyOf_string_mk Tryz.underlying9 hs)
  obtain ⟨c, rfl, hc⟩ := plain_bool_invS Tryz.underlying4 hv
  rw [h2] at hc
  injection hc with hc
  injection hc with hc
  rw [hrun, hc]
theorem MapB.put {w : World} {g n : Nat} {ks : List (List UInt8)} {D : DataW Unit} (h1 : w.ownsMap Tryz.prog 9 (plainElem Tryz.prog 4) g n D) (h2 : ∀ l, D.atKey (.string l) (.lit (.bool false)) = .lit (.bool (decide (l ∈ ks)))) (z : List UInt8) :
    ∀ y, (D.put (.string z) (.lit (.bool true))).atKey (.string y) (.lit (.bool false)) = .lit (.bool (decide (y ∈ z :: ks))) := fun y => by
  by_cases he : y = z
  · subst he
    rw [Go.Maps.atKey_put_same h1.isMap (by trivial)]; simp
  · rw [Go.Maps.atKey_put_other (fun e => he (by injection e)), h2]
    simp [he]
def NamesOk (ks : List (List UInt8)) : TreeP → Prop
  | .name s => s.data.toList ∈ ks ∧ s.size ≤ 16
  | .num _ => True
  | .bin k a b => (k = 2 ∨ k = 4) ∧ NamesOk ks a ∧ NamesOk ks b
set_option maxRecDepth 100000 in
set_option maxHeartbeats 2000000 in
theorem named_any (q g n : Nat) (ks : List (List UInt8)) : ∀ (T : TreeP) (x : Nat) (w : World), PT w x T → NamesOk ks T → MapB w g n ks → Calls Tryz.prog 87 #[.pointer (some ⟨q, 0, none⟩), .pointer (some ⟨x, 0, none⟩), .map (some g)] w fun e w' => e = .returned (.tuple #[]) ∧ Below w.heap.size w w'
  | .name s, x, w, hP, hN, hM => by
    obtain ⟨at', hB⟩ := hP
    obtain ⟨c4, hc4⟩ : ∃ c, c = w.heap.size := ⟨_, rfl⟩
    obtain ⟨wx, hwx⟩ : ∃ W, W = w.alloc (.cells #[.pointer (some ⟨x, 0, none⟩)] 116) := ⟨_, rfl⟩
    have hb : Below w.heap.size w wx := by rw [hwx]; exact (Below.refl _ _).alloc (Nat.le_refl _) _
    have e4 : wx.cell? ⟨c4, 0, none⟩ = some (.pointer (some ⟨x, 0, none⟩)) := by rw [hwx, hc4]; exact ((Blk.new w 116 #[.pointer (some ⟨x, 0, none⟩)]).cell 0).trans rfl
    have hBx := hB.below hb hB.lt
    have e0 := (hBx.cell 0).trans (show _ = some (vi 1) from rfl)
    have e2 := (hBx.cell 2).trans (show _ = some (.string s) from rfl)
    have e3 := (hBx.cell 3).trans (show _ = some (.slice none 0 0) from rfl)
    have hl := (hM.below hb).look s (by have := hN.2; simp [maxLen]; omega)
    rw [decide_eq_true hN.1] at hl
    have HW := Lib.hid (And.intro hwx (And.intro hc4 hb))
    clear hwx hc4 hb hBx hB hM hN
    go_enter Tryz.func87, Tryz.ntmps87
    go_upto_region 1 with (fail)
    rw [← HW.out.1, ← HW.out.2.1]
    go_wp2
    go_loopw [91] (fun i wr => i = vi 0 ∧ wx = wr) (fun _ _ => 0)
    case atStart => exact ⟨rfl, rfl⟩
    case round =>
      obtain ⟨rfl, rfl⟩ := hrel
      go_wp2
      go_end0
      exact ⟨rfl, HW.out.2.2⟩
  | .num m, x, w, hP, hN, hM => by
    obtain ⟨at', hB⟩ := hP
    obtain ⟨c4, hc4⟩ : ∃ c, c = w.heap.size := ⟨_, rfl⟩
    obtain ⟨wx, hwx⟩ : ∃ W, W = w.alloc (.cells #[.pointer (some ⟨x, 0, none⟩)] 116) := ⟨_, rfl⟩
    have hb : Below w.heap.size w wx := by rw [hwx]; exact (Below.refl _ _).alloc (Nat.le_refl _) _
    have e4 : wx.cell? ⟨c4, 0, none⟩ = some (.pointer (some ⟨x, 0, none⟩)) := by rw [hwx, hc4]; exact ((Blk.new w 116 #[.pointer (some ⟨x, 0, none⟩)]).cell 0).trans rfl
    have hBx := hB.below hb hB.lt
    have e0 := (hBx.cell 0).trans (show _ = some (vi 0) from rfl)
    have e3 := (hBx.cell 3).trans (show _ = some (.slice none 0 0) from rfl)
    have HW := Lib.hid (And.intro hwx (And.intro hc4 hb))
    clear hwx hc4 hb hBx hB hM hN
    go_enter Tryz.func87, Tryz.ntmps87
    go_upto_region 1 with (fail)
    rw [← HW.out.1, ← HW.out.2.1]
    go_wp2
    go_loopw [91] (fun i wr => i = vi 0 ∧ wx = wr) (fun _ _ => 0)
    case atStart => exact ⟨rfl, rfl⟩
    case round =>
      obtain ⟨rfl, rfl⟩ := hrel
      go_wp2
      go_end0
      exact ⟨rfl, HW.out.2.2⟩
  | .bin k a b, x, w, hP, hN, hM => by
    obtain ⟨at', gk, y, z, hB, hG, hPa, hPb⟩ := hP
    obtain ⟨c4, hc4⟩ : ∃ c, c = w.heap.size := ⟨_, rfl⟩
    obtain ⟨wx, hwx⟩ : ∃ W, W = w.alloc (.cells #[.pointer (some ⟨x, 0, none⟩)] 116) := ⟨_, rfl⟩
    have hb : Below w.heap.size w wx := by rw [hwx]; exact (Below.refl _ _).alloc (Nat.le_refl _) _
    have e4 : wx.cell? ⟨c4, 0, none⟩ = some (.pointer (some ⟨x, 0, none⟩)) := by rw [hwx, hc4]; exact ((Blk.new w 116 #[.pointer (some ⟨x, 0, none⟩)]).cell 0).trans rfl
    have hBx := hB.below hb hB.lt
    have e0 := (hBx.cell 0).trans (show _ = some (vi k) from rfl)
    have e3 := (hBx.cell 3).trans (show _ = some (.slice (some ⟨gk, 0, none⟩) 2 2) from rfl)
    have q1 : (k == 1) = false := by rcases hN.1 with h | h <;> (subst h; rfl)
    have q11 : (k == 11) = false := by rcases hN.1 with h | h <;> (subst h; rfl)
    have q8 : (k == 8) = false := by rcases hN.1 with h | h <;> (subst h; rfl)
    have HA := Lib.hid (fun W (hW : Below wx.heap.size wx W) => named_any q g n ks a y W ((hPa.below hb).below hW) hN.2.1 ((hM.below hb).below hW))
    have HBB := Lib.hid (fun W (hW : Below wx.heap.size wx W) => named_any q g n ks b z W ((hPb.below hb).below hW) hN.2.2 ((hM.below hb).below hW))
    have HG := Lib.hid (hG.below hb hG.lt)
    have HW := Lib.hid (And.intro hwx (And.intro hc4 hb))
    clear hwx hc4 hb hBx hB hM hN hG hPa hPb
    go_enter Tryz.func87, Tryz.ntmps87
    go_upto_region 1 with (fail)
    rw [← HW.out.1, ← HW.out.2.1]
    go_wp2
    go_loopw [91] (fun i wr => ∃ j : Nat, j ≤ 2 ∧ i = vi j ∧ Below wx.heap.size wx wr) (fun i _ => 2 - (intOf i).toNat)
    case atStart => exact ⟨0, by omega, rfl, Below.refl _ _⟩
    case round =>
      rename World => w1
      obtain ⟨j, hj, rfl, hb1⟩ := hrel
      have hc : j = 0 ∨ j = 1 ∨ j = 2 := by omega
      rcases hc with rfl | rfl | rfl
      · have g0 := ((HG.out.below hb1 HG.out.lt).cell 0).trans (show _ = some (.pointer (some ⟨y, 0, none⟩)) from rfl)
        have HB1 := Lib.hid hb1
        clear hb1
        go_wp2_with fail
        refine (HA.out w1 HB1.out).mono ?_
        rintro _ w2 ⟨rfl, hb2⟩
        have HB2 := Lib.hid (HB1.out.trans (hb2.mono HB1.out.size))
        clear hb2 g0
        go_wp2
        exact ⟨⟨1, by omega, by first | rfl | go_num, HB2.out⟩, by simp [intOf]⟩
      · have g1 := ((HG.out.below hb1 HG.out.lt).cell 1).trans (show _ = some (.pointer (some ⟨z, 0, none⟩)) from rfl)
        have HB1 := Lib.hid hb1
        clear hb1
        go_wp2_with fail
        refine (HBB.out w1 HB1.out).mono ?_
        rintro _ w2 ⟨rfl, hb2⟩
        have HB2 := Lib.hid (HB1.out.trans (hb2.mono HB1.out.size))
        clear hb2 g1
        go_wp2
        exact ⟨⟨2, by omega, by first | rfl | go_num, HB2.out⟩, by simp [intOf]⟩
      · have HB1 := Lib.hid hb1
        clear hb1
        go_wp2
        go_end0
        exact ⟨rfl, HW.out.2.2.trans (HB1.out.mono HW.out.2.2.size)⟩
end Go.Proofs.YtpkhcncempoohaaGreatDoor

namespace Go.Proofs.YtpkhcncempoohaaGreatDoor
open Go.RowKit Zp
theorem FnP.below {w w' : World} {f : Nat} {nm S : ByteArray} {A0 : Int} {B : Value} (h : FnP w f nm S A0 B) (hb : Below w.heap.size w w') : FnP w' f nm S A0 B := by
  obtain ⟨g, c, cu, V, h1, h2, h3⟩ := h
  exact ⟨g, c, cu, V, h1.below hb h1.lt, h2.below hb h2.lt, h3⟩
theorem FnT.below {w w' : World} {f : Nat} (h : FnT w f) (hb : Below w.heap.size w w') : FnT w' f := by
  obtain ⟨x, A0, h1, h2⟩ := h
  exact ⟨x, A0, h1.below hb, h2.below hb⟩
def ProgT (w : World) (q : Nat) : Prop := ∃ (g c f : Nat) (cu : Array Value), Blk w q 102 #[.slice (some ⟨g, 0, none⟩) 1 c] ∧ Blk w g 103 cu ∧ cu[0]? = some (.pointer (some ⟨f, 0, none⟩)) ∧ FnT w f
theorem ProgT.below {w w' : World} {q : Nat} (h : ProgT w q) (hb : Below w.heap.size w w') : ProgT w' q := by
  obtain ⟨g, c, f, cu, h1, h2, h3, h4⟩ := h
  exact ⟨g, c, f, cu, h1.below hb h1.lt, h2.below hb h2.lt, h3, h4.below hb⟩
theorem plain_true : plainElem Tryz.prog 4 (.bool true) = some ((.lit (.bool true) : DataW Unit), []) := plainElem_bool Tryz.underlying4 true
set_option maxRecDepth 100000 in
set_option maxHeartbeats 4000000 in
theorem check_yes (q : Nat) (e0 : Int) (w : World) (h : ProgT w q) : Calls Tryz.prog 46 #[.pointer (some ⟨q, 0, none⟩), vi e0] w fun e w' => e = .returned (.tuple #[]) ∧ Below w.heap.size w w' := by
  have hmm := @run_makeMap Tryz.prog
  obtain ⟨m1, hm1⟩ : ∃ m, m = w.heap.size := ⟨_, rfl⟩
  obtain ⟨w1, hw1⟩ : ∃ W, W = w.alloc (.map #[] 0) := ⟨_, rfl⟩
  have hb1 : Below w.heap.size w w1 := by rw [hw1]; exact (Below.refl _ _).alloc (Nat.le_refl _) _
  have hM1 : MapB w1 m1 0 [] := by rw [hw1, hm1]; exact MapB.made w
  obtain ⟨gq, cq, f, cuq, hq1, hq2, hq3, x, A0, ⟨gn, cn, cun, V, hf1, hf2, hf3⟩, hPx⟩ := h
  have KF : Hid (∀ W, Below w.heap.size w W → Blk W f 118 #[.string ⟨#[109, 97, 105, 110]⟩, .slice (some ⟨gn, 0, none⟩) 1 cn, .pointer (some ⟨x, 0, none⟩), vi A0, V] ∧ W.cell? ⟨gn, 0, none⟩ = some (.string ⟨#[97]⟩) ∧ PT W x treeM) := Lib.hid fun W hW => ⟨hf1.below hW hf1.lt, ((hf2.below hW hf2.lt).cell 0).trans hf3, hPx.below hW⟩
  have k0 := ((hq1.below hb1 hq1.lt).cell 0).trans (show _ = some (.slice (some ⟨gq, 0, none⟩) 1 cq) from rfl)
  have k1 := ((hq2.below hb1 hq2.lt).cell 0).trans hq3
  have HW1 := Lib.hid (And.intro hw1 hm1)
  have hm1b : w.heap.size ≤ m1 := by omega
  have H1 := Lib.hid (And.intro hb1 (And.intro hM1 hm1b))
  clear hw1 hm1 hb1 hM1 hq1 hq2 hq3 hf1 hf2 hf3 hPx hm1b
  go_enter Tryz.func46, Tryz.ntmps46
  go_upto_region 1 with (fail)
  rw [← HW1.out.1, ← HW1.out.2]
  go_wp2
  go_loopw [16] (fun i wr => (i = vi 0 ∧ w1 = wr) ∨ (i = vi 1 ∧ MapB wr m1 1 [[109, 97, 105, 110]] ∧ Below w.heap.size w wr)) (fun i _ => 1 - (intOf i).toNat)
  case atStart => exact .inl ⟨rfl, rfl⟩
  case round =>
    rename World => wr
    rcases hrel with ⟨rfl, rfl⟩ | ⟨rfl, hM, hb⟩
    · have y0 := ((KF.out _ H1.out.1).1.cell 0).trans (show _ = some (.string ⟨#[109, 97, 105, 110]⟩) from rfl)
      have hl := H1.out.2.1.look ⟨#[109, 97, 105, 110]⟩ (by decide)
      rw [decide_eq_false (by simp)] at hl
      obtain ⟨D, hD1, hD2⟩ := H1.out.2.1
      have HD := Lib.hid hD1
      have HD2 := Lib.hid hD2
      clear hD1 hD2 hmm
      go_upto_region 6 with (fail)
      go_upto_region 7 with (at_mapUpdate; refine wpList_mapUpdate_own _ rfl _ _ _ 153 rfl 9 4 keyed_s Tryz.underlying153 _ m1 0 _ rfl HD.out (by decide) _ _ _ rfl rfl (Go.WideMaps.keyOf_string_mk Tryz.underlying9 (by decide)) _ [] plain_true ?_; intro w2 hO2 hg2)
      have hb2 : Below w.heap.size w w2 := H1.out.1.grown hg2 H1.out.1.size (fun g hg => by injection hg with hg; rw [← hg]; exact H1.out.2.2)
      have hM2 : MapB w2 m1 1 [[109, 97, 105, 110]] := ⟨_, hO2, MapB.put HD.out HD2.out _⟩
      obtain ⟨m2, hm2⟩ : ∃ m, m = w2.heap.size := ⟨_, rfl⟩
      obtain ⟨w3, hw3⟩ : ∃ W, W = w2.alloc (.map #[] 0) := ⟨_, rfl⟩
      have hb23 : Below w2.heap.size w2 w3 := by rw [hw3]; exact (Below.refl _ _).alloc (Nat.le_refl _) _
      have hM3 : MapB w3 m2 0 [] := by rw [hw3, hm2]; exact MapB.made w2
      have hb3 := hb2.trans (hb23.mono hb2.size)
      have hne : m1 ≠ m2 := by have := hM2.lt; omega
      have hm2b : w.heap.size ≤ m2 := by rw [hm2]; exact hb2.size
      have H3 := Lib.hid (And.intro hb3 (And.intro (hM2.below hb23) (And.intro hM3 (And.intro hne hm2b))))
      have HW3 := Lib.hid (And.intro hw3 hm2)
      have y1 := ((KF.out _ hb3).1.cell 1).trans (show _ = some (.slice (some ⟨gn, 0, none⟩) 1 cn) from rfl)
      have hmm := @run_makeMap Tryz.prog
      clear hb2 hM2 hm2 hw3 hb23 hM3 hb3 hne hm2b hO2 hg2 hl y0 k0 k1
      go_upto_region 8 with (fail)
      rw [← HW3.out.1, ← HW3.out.2]
      clear hmm
      go_wp2
      go_loopw [43] (fun i wr => (i = vi 0 ∧ w3 = wr) ∨ (i = vi 1 ∧ MapB wr m2 1 [[97]] ∧ MapB wr m1 1 [[109, 97, 105, 110]] ∧ Below w.heap.size w wr)) (fun i _ => 1 - (intOf i).toNat)
      case atStart => exact .inl ⟨rfl, rfl⟩
      case round =>
        rename World => wi
        rcases hrel with ⟨rfl, rfl⟩ | ⟨rfl, hMa, hMb, hb⟩
        · have z0 := (KF.out _ H3.out.1).2.1
          have hl := H3.out.2.2.1.look ⟨#[97]⟩ (by decide)
          rw [decide_eq_false (by simp)] at hl
          obtain ⟨D3, hD1, hD2⟩ := H3.out.2.2.1
          have HD3 := Lib.hid hD1
          have HD4 := Lib.hid hD2
          clear hD1 hD2 y1
          go_upto_region 13 with (fail)
          go_wp2_with (at_mapUpdate; refine wpList_mapUpdate_own _ rfl _ _ _ 153 rfl 9 4 keyed_s Tryz.underlying153 _ m2 0 _ rfl HD3.out (by decide) _ _ _ rfl rfl (Go.WideMaps.keyOf_string_mk Tryz.underlying9 (by decide)) _ [] plain_true ?_; intro w4 hO4 hg4)
          have H4 := Lib.hid (show MapB w4 m2 1 [[97]] ∧ MapB w4 m1 1 [[109, 97, 105, 110]] ∧ Below w.heap.size w w4 from ⟨⟨_, hO4, MapB.put HD3.out HD4.out _⟩, H3.out.2.1.block (hg4.block m1 H3.out.2.1.lt (fun e => by injection e with e; exact H3.out.2.2.2.1 e)), H3.out.1.grown hg4 H3.out.1.size (fun g hg => by injection hg with hg; rw [← hg]; exact H3.out.2.2.2.2)⟩)
          clear hO4 hg4 hl z0
          go_wp2
          go_roundw
          case rel => exact .inr ⟨by first | rfl | go_num, H4.out⟩
          case measure => simp [intOf]
        · have y2 := ((KF.out _ hb).1.cell 2).trans (show _ = some (.pointer (some ⟨x, 0, none⟩)) from rfl)
          have HNM := Lib.hid (named_any q m2 1 [[97]] treeM x wi (KF.out _ hb).2.2 ⟨.inr rfl, ⟨by decide, by decide⟩, .inl rfl, ⟨by decide, by decide⟩, trivial⟩ hMa)
          have H5 := Lib.hid (And.intro hb hMb)
          clear hb hMa hMb y1
          go_wp2_with fail
          refine HNM.out.mono ?_
          rintro _ w6 ⟨rfl, hb6⟩
          have H6 := Lib.hid (And.intro (H5.out.2.below hb6) (H5.out.1.trans (hb6.mono H5.out.1.size)))
          clear hb6 y2
          go_wp2
          go_roundw
          case rel => exact .inr ⟨by first | rfl | go_num, H6.out⟩
          case measure => simp [intOf]
    · have hl := hM.look ⟨#[109, 97, 105, 110]⟩ (by decide)
      rw [decide_eq_true (by decide)] at hl
      have HB := Lib.hid hb
      clear hb hM
      go_wp2
      go_end0
      exact ⟨rfl, HB.out⟩
end Go.Proofs.YtpkhcncempoohaaGreatDoor

namespace Go.Proofs.YtpkhcncempoohaaGreatDoor
open Go.RowKit Zp
theorem info_ins : (Tryz.prog.info? 121).map (fun i => (i.zero, i.size, i.bytes)) = some (some (.agg #[vi 0, vi 0, vi 0, vi 0]), 4, 32) := by kernel_rfl
def encI (x : InsI) : List Value := [vi x.op, vi x.a, vi x.b, vi x.c]
def encCl (x : Int × ByteArray) : List Value := [vi x.1, .string x.2]
def OwnI (w : World) (base : Nat) (v : Value) (L : List InsI) : Prop := w.ownsRow base 121 4 v L.length (L.flatMap encI)
def OwnL (w : World) (base : Nat) (v : Value) (C : List (Int × ByteArray)) : Prop := w.ownsRow base 112 2 v C.length (C.flatMap encCl)
theorem flatI_snoc (L : List InsI) (x : InsI) : (L ++ [x]).flatMap encI = L.flatMap encI ++ [vi x.op, vi x.a, vi x.b, vi x.c] := by simp [encI]
theorem rowLw_keep {w w' : World} {base sz n : Nat} {e : TypeId} {v : Value} {xs : List Value} (h : w.ownsRow base e sz v n xs) (hk : ∀ g, v.ownBlock = some g → w'.heap[g]? = w.heap[g]?) : w'.ownsRow base e sz v n xs := by
  refine ⟨h.1, ?_⟩
  rcases h.2 with h0 | ⟨g, cap, cur, hv, hg, hh, rest⟩
  · exact .inl h0
  · exact .inr ⟨g, cap, cur, hv, hg, by rw [hk g (by rw [hv]; rfl)]; exact hh, rest⟩
theorem rowLw_blk {w : World} {base sz n : Nat} {e : TypeId} {v : Value} {xs : List Value} (h : w.ownsRow base e sz v n xs) {g : Nat} (hg : v.ownBlock = some g) : ∃ cs, Blk w g e cs := by
  rcases h.2 with ⟨rfl, _⟩ | ⟨g', cap, cur, rfl, _, hh, _⟩
  · cases hg
  · injection hg with hg
    subst hg
    exact ⟨cur, hh⟩
def WS (w : World) (B b : Nat) (L : List InsI) (C : List (Int × ByteArray)) : Prop := B ≤ b ∧ ∃ vL vC, Blk w b 109 #[vL, vC] ∧ OwnI w B vL L ∧ OwnL w B vC C
def WSv (w : World) (B b : Nat) (L : List InsI) (vC : Value) (C : List (Int × ByteArray)) : Prop := B ≤ b ∧ ∃ vL, Blk w b 109 #[vL, vC] ∧ OwnI w B vL L ∧ OwnL w B vC C
theorem WSv.ws {w : World} {B b : Nat} {L : List InsI} {vC : Value} {C : List (Int × ByteArray)} (h : WSv w B b L vC C) : WS w B b L C := by
  obtain ⟨h0, vL, h1⟩ := h
  exact ⟨h0, vL, vC, h1⟩
structure KpI (X : List Nat) (B : Nat) (w w' : World) : Prop where
  below : Below B w w'
  keep : ∀ g, g < w.heap.size → g ∉ X → (∀ cs, ¬ Blk w g 121 cs) → w'.heap[g]? = w.heap[g]?
theorem KpI.refl (X : List Nat) (B : Nat) (w : World) : KpI X B w w := ⟨Below.refl _ _, fun _ _ _ _ => rfl⟩
theorem KpI.trans {X : List Nat} {B : Nat} {a b c : World} (h : KpI X B a b) (k : KpI X B b c) : KpI X B a c :=
  ⟨h.below.trans k.below, fun g hg hX hn => by
    have e := h.keep g hg hX hn
    rw [k.keep g (Nat.lt_of_lt_of_le hg h.below.size) hX (fun cs hc => hn cs (by rw [Blk, ← e]; exact hc)), e]⟩
theorem KpI.more {X Y : List Nat} {B : Nat} {a b : World} (h : KpI X B a b) (hs : ∀ k ∈ X, k ∈ Y) : KpI Y B a b := ⟨h.below, fun g hg hX hn => h.keep g hg (fun hx => hX (hs g hx)) hn⟩
theorem KpI.blk {X : List Nat} {B : Nat} {a b : World} (h : KpI X B a b) {g : Nat} {t : TypeId} {cs : Array Value} (hB : Blk a g t cs) (hX : g ∉ X) (ht : t ≠ 121) : Blk b g t cs :=
  (h.keep g hB.lt hX (fun cs' hc => (Blk.ne_ hB hc ht) rfl)).trans hB
theorem KpI.drew {X : List Nat} {B : Nat} {a b : World} (h : KpI X B a b) : KpI X B a b.drew := ⟨⟨h.below.os, h.below.tape, h.below.output, h.below.size, h.below.block⟩, h.keep⟩
theorem KpI.drewN {X : List Nat} {B : Nat} {a b : World} (h : KpI X B a b) (k : Nat) : KpI X B a (b.drewN k) := ⟨below_drewN h.below k, h.keep⟩
theorem KpI.setCell {X : List Nat} {B : Nat} {a b : World} (h : KpI X B a b) {q : Addr} (hq : q.block ∈ X) (hB : B ≤ q.block) (u : Value) : KpI X B a (b.setCell q u) :=
  ⟨h.below.setCell hB u, fun g hg hX hn => (Below.heap_setCell b q u g (fun e => hX (by rw [e]; exact hq))).trans (h.keep g hg hX hn)⟩
theorem WS.drewN {w : World} {B b : Nat} {L : List InsI} {C : List (Int × ByteArray)} (h : WS w B b L C) (k : Nat) : WS (w.drewN k) B b L C := h
theorem WS.keepQ {w w' : World} {B b : Nat} {L : List InsI} {C : List (Int × ByteArray)} (h : WS w B b L C) (hk : ∀ g t cs, Blk w g t cs → t = 109 ∨ t = 121 ∨ t = 112 → w'.heap[g]? = w.heap[g]?) : WS w' B b L C := by
  obtain ⟨h0, vL, vC, h1, h2, h3⟩ := h
  exact ⟨h0, vL, vC, (hk _ _ _ h1 (.inl rfl)).trans h1, rowLw_keep h2 (fun g hg => by obtain ⟨cs, hc⟩ := rowLw_blk h2 hg; exact hk _ _ _ hc (.inr (.inl rfl))), rowLw_keep h3 (fun g hg => by obtain ⟨cs, hc⟩ := rowLw_blk h3 hg; exact hk _ _ _ hc (.inr (.inr rfl)))⟩
theorem WS.below {w w' : World} {B b : Nat} {L : List InsI} {C : List (Int × ByteArray)} (h : WS w B b L C) (hb : Below w.heap.size w w') : WS w' B b L C := h.keepQ fun g t cs hB _ => hb.block g hB.lt
theorem WS.far {w : World} {B b : Nat} {L : List InsI} {C : List (Int × ByteArray)} (h : WS w B b L C) {q : Addr} {t : TypeId} {cs : Array Value} (hq : Blk w q.block t cs) (ht : t ≠ 109 ∧ t ≠ 121 ∧ t ≠ 112) (u : Value) : WS (w.setCell q u) B b L C := h.keepQ fun g t' cs' hB hty => Below.heap_setCell w q u g (Blk.ne_ hB hq (by rcases hty with rfl | rfl | rfl <;> first | exact ht.1.symm | exact ht.2.1.symm | exact ht.2.2.symm))
set_option maxRecDepth 100000 in
set_option maxHeartbeats 2000000 in
theorem wadd_v (B b : Nat) (L : List InsI) (vC : Value) (C : List (Int × ByteArray)) (o a b' c : Int) (hL : L.length ≤ 1000) (w : World) (hB : B ≤ w.heap.size) (h : WSv w B b L vC C) :
    Calls Tryz.prog 48 #[.pointer (some ⟨b, 0, none⟩), vi o, vi a, vi b', vi c] w fun e w' => e = .returned (vi L.length) ∧ WSv w' B b (L ++ [⟨o, a, b', c⟩]) vC C ∧ KpI [b] B w w' := by
  obtain ⟨h0, vL, h1, h2, h3⟩ := h
  obtain ⟨A, cA, rfl⟩ := row_form h2
  have hs : IntKind.i64.wrap (L.length : Int) = (L.length : Int) := IntWalk.i64_in _ (by constructor <;> omega)
  have k0 := (h1.cell 0).trans (show _ = some (.slice A L.length cA) from rfl)
  have H := Lib.hid (And.intro h1 (And.intro (show w.ownsRow B 121 4 (.slice A L.length cA) L.length (L.flatMap encI) from h2) (And.intro h3 h0)))
  have hbn : (Value.slice A L.length cA).ownBlock ≠ some b := fun e => by
    obtain ⟨cs, hcs⟩ := rowLw_blk h2 e
    exact Blk.ne_ hcs h1 (by decide) rfl
  have HBN := Lib.hid (And.intro hbn (And.intro hL hB))
  have hcn : ∀ g, vC.ownBlock = some g → some g ≠ (Value.slice A L.length cA).ownBlock ∧ g ≠ b := fun g hg => by
    obtain ⟨cs, hcs⟩ := rowLw_blk h3 hg
    refine ⟨fun e => ?_, Blk.ne_ hcs h1 (by decide)⟩
    obtain ⟨cs', hcs'⟩ := rowLw_blk h2 e.symm
    exact Blk.ne_ hcs hcs' (by decide) rfl
  have HCN := Lib.hid hcn
  clear h1 h2 h3 h0 hbn hcn hL hB
  go_enter Tryz.func48, Tryz.ntmps48
  go_upto_region 2 with (at_builtin; refine wpList_appS 22 121 _ 4 32 Tryz.underlying22 info_ins (by rfl) (by omega) w _ [vi o, vi a, vi b', vi c] (by rfl) (by rfl) (by simp [Value.oneCell']) (by rfl) _ _ (by rfl) B (.slice A L.length cA) L.length (L.flatMap encI) (by rfl) (by rfl) H.out.2.1 (by have := HBN.out.2.1; simp only [maxLen]; omega) (by have := HBN.out.2.1; omega) HBN.out.2.2 ?_; intro v5 w5 h51 h52 h53; have hB5 := Blk.grown H.out.1 h52 (fun e => HBN.out.1 e.symm); have f5 := hB5.frozen 0; have y5 := (hB5.cell 0).trans (show _ = some (Value.slice A L.length cA) from rfl); obtain ⟨A5, c5, hv5⟩ := row_form h51; subst hv5)
  have hrow5 : OwnI w5 B (.slice A5 (L.length + 1) c5) (L ++ [⟨o, a, b', c⟩]) := by
    unfold OwnI
    rw [List.length_append, flatI_snoc]
    exact h51
  have hC5 : OwnL w5 B vC C := rowLw_keep H.out.2.2.1 fun g hg => h52.block g (World.ownsRow.lt H.out.2.2.1 g hg).2 (HCN.out g hg).1
  obtain ⟨w6, hw6⟩ : ∃ W, W = w5.setCell ⟨b, 0, none⟩ (.slice A5 (L.length + 1) c5) := ⟨_, rfl⟩
  have hB6 : Blk w6 b 109 #[.slice A5 (L.length + 1) c5, vC] := by rw [hw6]; exact hB5.set_ 0 _
  have hS6 : WSv w6 B b (L ++ [⟨o, a, b', c⟩]) vC C := by
    refine ⟨H.out.2.2.2, _, hB6, ?_, ?_⟩
    · rw [hw6]
      refine rowLw_keep hrow5 fun g hg => Below.heap_setCell w5 ⟨b, 0, none⟩ _ g fun e => ?_
      obtain ⟨cs, hcs⟩ := rowLw_blk hrow5 hg
      exact Blk.ne_ hcs hB5 (by decide) e
    · rw [hw6]
      exact rowLw_keep hC5 fun g hg => Below.heap_setCell w5 ⟨b, 0, none⟩ _ g (HCN.out g hg).2
  have hK6 : KpI [b] B w w6 := by
    have h0 : KpI [b] B w w5 := ⟨(Below.refl B w).grown h52 HBN.out.2.2 (fun g hg => (World.ownsRow.lt H.out.2.1 g hg).1), fun g hg hX hn => h52.block g hg (fun e => by
      obtain ⟨cs, hcs⟩ := rowLw_blk H.out.2.1 e.symm
      exact hn _ hcs)⟩
    rw [hw6]
    exact h0.setCell (by simp) H.out.2.2.2 _
  have z0 := (hB6.cell 0).trans (show _ = some (.slice A5 (L.length + 1) c5) from rfl)
  rw [← hw6]
  have H6 := Lib.hid (And.intro hS6 hK6)
  clear hw6 hB6 hS6 hK6 hrow5 hC5 hB5 f5 y5 h51 h52 h53 k0
  go_wp2
  go_ret
  exact ⟨rfl, H6.out⟩
theorem wadd_any (B b : Nat) (L : List InsI) (C : List (Int × ByteArray)) (o a b' c : Int) (hL : L.length ≤ 1000) (w : World) (hB : B ≤ w.heap.size) (h : WS w B b L C) :
    Calls Tryz.prog 48 #[.pointer (some ⟨b, 0, none⟩), vi o, vi a, vi b', vi c] w fun e w' => e = .returned (vi L.length) ∧ WS w' B b (L ++ [⟨o, a, b', c⟩]) C ∧ KpI [b] B w w' := by
  obtain ⟨h0, vL, vC, h1⟩ := h
  exact (wadd_v B b L vC C o a b' c hL w hB ⟨h0, vL, h1⟩).mono fun e w' h => ⟨h.1, h.2.1.ws, h.2.2⟩
theorem WSv.below {w w' : World} {B b : Nat} {L : List InsI} {vC : Value} {C : List (Int × ByteArray)} (h : WSv w B b L vC C) (hb : Below w.heap.size w w') : WSv w' B b L vC C := by
  obtain ⟨h0, vL, h1, h2, h3⟩ := h
  exact ⟨h0, vL, h1.below hb h1.lt, rowLw_keep h2 (fun g hg => hb.block g (World.ownsRow.lt h2 g hg).2), rowLw_keep h3 (fun g hg => hb.block g (World.ownsRow.lt h3 g hg).2)⟩
theorem WSv.drew {w : World} {B b : Nat} {L : List InsI} {vC : Value} {C : List (Int × ByteArray)} (h : WSv w B b L vC C) : WSv w.drew B b L vC C := h
theorem WSv.cell1 {w : World} {B b : Nat} {L : List InsI} {vC : Value} {C : List (Int × ByteArray)} (h : WSv w B b L vC C) : w.cell? ⟨b, 1, none⟩ = some vC := by
  obtain ⟨h0, vL, h1, h2, h3⟩ := h
  exact (h1.cell 1).trans rfl
end Go.Proofs.YtpkhcncempoohaaGreatDoor

namespace Go.Proofs.YtpkhcncempoohaaGreatDoor
open Go.RowKit Zp
def MapS (w : World) (g n : Nat) (φ : List UInt8 → Int) : Prop := ∃ D : DataW Unit, w.ownsMap Tryz.prog 9 (plainElem Tryz.prog 3) g n D ∧ ∀ l, D.atKey (.string l) (.lit (.int .i64 0)) = .lit (.int .i64 (φ l))
theorem MapS.made (w : World) : MapS (w.alloc (.map #[] 0)) w.heap.size 0 (fun _ => 0) := ⟨_, World.ownsMap_made w _ _ _, fun z => by simp [DataW.atKey]⟩
theorem MapS.lt {w : World} {g n : Nat} {φ : List UInt8 → Int} (h : MapS w g n φ) : g < w.heap.size := by
  obtain ⟨D, h1, _⟩ := h
  exact h1.lt
theorem MapS.block {w w' : World} {g n : Nat} {φ : List UInt8 → Int} (h : MapS w g n φ) (hb : w'.heap[g]? = w.heap[g]?) : MapS w' g n φ := by
  obtain ⟨D, ⟨es, clock, h1, h2⟩, h3⟩ := h
  exact ⟨D, ⟨es, clock, hb.trans h1, h2⟩, h3⟩
theorem MapS.not {w : World} {g n : Nat} {φ : List UInt8 → Int} (h : MapS w g n φ) {t : TypeId} {cs : Array Value} : ¬ Blk w g t cs := fun hB => by
  obtain ⟨D, ⟨es, clock, h1, h2⟩, h3⟩ := h
  rw [Blk, h1] at hB
  cases hB
theorem MapS.below {w w' : World} {g n : Nat} {φ : List UInt8 → Int} (h : MapS w g n φ) (hb : Below w.heap.size w w') : MapS w' g n φ := h.block (hb.block g h.lt)
theorem MapS.kpi {w w' : World} {g n B : Nat} {X : List Nat} {φ : List UInt8 → Int} (h : MapS w g n φ) (hk : KpI X B w w') (hX : ∀ x ∈ X, ∃ t cs, Blk w x t cs) : MapS w' g n φ := h.block (hk.keep g h.lt (fun hg => by
  obtain ⟨t, cs, hB⟩ := hX g hg
  exact h.not hB) (fun cs hB => h.not hB))
theorem zero_iS (w : World) : (zeroValue 3).run Tryz.prog w = .ok (vi 0) w := by kernel_rfl
theorem plain_iS {z : Int} (hz : I64 z) : plainElem Tryz.prog 3 (vi z) = some ((.lit (.int .i64 z) : DataW Unit), []) := plainElem_int Tryz.underlying3 (by obtain ⟨h1, h2⟩ := hz; simp [Lit.wf, IntKind.min, IntKind.max, IntKind.signed, IntKind.bits]; exact ⟨h1, h2⟩)
set_option maxRecDepth 100000 in
theorem MapS.look {w : World} {g n : Nat} {φ : List UInt8 → Int} (h : MapS w g n φ) (s : ByteArray) (hs : s.size ≤ maxLen) :
    (Instr.lookup 113 (.map (some g)) (.string s) false).run Tryz.prog w = .ok (vi (φ s.data.toList)) w := by
  obtain ⟨D, h1, h2⟩ := h
  obtain ⟨c, hrun, hc, _⟩ := h1.lookup_int keyed_s Tryz.underlying113 Tryz.underlying3 (zero_iS w) (Go.WideMaps.keyOf_string_mk Tryz.underlying9 hs)
  rw [h2] at hc
  injection hc with hc
  injection hc with _ hc
  rw [hrun, hc]
def putS (φ : List UInt8 → Int) (z : List UInt8) (v : Int) : List UInt8 → Int := fun y => if y = z then v else φ y
theorem MapS.put {w : World} {g n : Nat} {φ : List UInt8 → Int} {D : DataW Unit} (h1 : w.ownsMap Tryz.prog 9 (plainElem Tryz.prog 3) g n D) (h2 : ∀ l, D.atKey (.string l) (.lit (.int .i64 0)) = .lit (.int .i64 (φ l))) (z : List UInt8) (v : Int) :
    ∀ y, (D.put (.string z) (.lit (.int .i64 v))).atKey (.string y) (.lit (.int .i64 0)) = .lit (.int .i64 (putS φ z v y)) := fun y => by
  by_cases he : y = z
  · subst he
    rw [Go.Maps.atKey_put_same h1.isMap (by trivial)]; simp [putS]
  · rw [Go.Maps.atKey_put_other (fun e => he (by injection e)), h2]
    simp [putS, he]
structure FnS (w : World) (B b f m k : Nat) (φ : List UInt8 → Int) (L : List InsI) (C : List (Int × ByteArray)) (z n : Int) : Prop where
  ws : WS w B b L C
  hf : B ≤ f
  blk : Blk w f 159 #[.pointer (some ⟨b, 0, none⟩), .map (some m), vi z, vi n]
  map : MapS w m k φ
theorem FnS.drew {w : World} {B b f m k : Nat} {φ : List UInt8 → Int} {L : List InsI} {C : List (Int × ByteArray)} {z n : Int} (h : FnS w B b f m k φ L C z n) : FnS w.drew B b f m k φ L C z n := ⟨h.ws, h.hf, h.blk, h.map⟩
theorem FnS.kp1 {w w' : World} {B b f m k : Nat} {φ : List UInt8 → Int} {L L' : List InsI} {C C' : List (Int × ByteArray)} {z n : Int} (h : FnS w B b f m k φ L C z n) (hw : WS w' B b L' C') (hk : KpI [b] B w w') : FnS w' B b f m k φ L' C' z n := by
  obtain ⟨h0, vL, vC, h1, _⟩ := h.ws
  exact ⟨hw, h.hf, hk.blk h.blk (by simp; exact Blk.ne_ h.blk h1 (by decide)) (by decide), h.map.kpi hk (by simp; exact ⟨_, _, h1⟩)⟩
theorem FnS.next {w : World} {B b f m k : Nat} {φ : List UInt8 → Int} {L : List InsI} {C : List (Int × ByteArray)} {z n : Int} (h : FnS w B b f m k φ L C z n) (v : Int) : FnS (w.setCell ⟨f, 3, none⟩ (vi v)) B b f m k φ L C z v :=
  ⟨h.ws.far h.blk ⟨by decide, by decide, by decide⟩ _, h.hf, h.blk.set_ 3 _, h.map.block (Below.heap_setCell _ _ _ _ fun e => h.map.not (by rw [show m = f from e]; exact h.blk))⟩
theorem cell_any (B b f m k : Nat) (φ : List UInt8 → Int) (L : List InsI) (C : List (Int × ByteArray)) (z : Int) (n : Nat) (hn : n ≤ 1000) (w : World) (h : FnS w B b f m k φ L C z n) :
    Calls Tryz.prog 90 #[.pointer (some ⟨f, 0, none⟩)] w fun e w' => e = .returned (vi n) ∧ FnS w' B b f m k φ L C z ((n : Int) + 1) ∧ KpI [f] B w w' := by
  have hs : IntKind.i64.wrap ((n : Int) + 1) = (n : Int) + 1 := IntWalk.i64_in _ (by constructor <;> omega)
  have hs2 : IntKind.i64.wrap ((n : Int) + 1 - 1) = (n : Int) := by rw [IntWalk.i64_in _ (by constructor <;> omega)]; omega
  have hs3 : IntKind.i64.wrap (n : Int) = (n : Int) := IntWalk.i64_in _ (by constructor <;> omega)
  have k3 := (h.blk.cell 3).trans (show _ = some (vi n) from rfl)
  have f3 := h.blk.frozen 3
  have H := Lib.hid h
  clear h
  go_enter Tryz.func90, Tryz.ntmps90
  go_upto_region 2 with (fail)
  obtain ⟨w1, hw1⟩ : ∃ W, W = w.setCell ⟨f, 3, none⟩ (vi ((n : Int) + 1)) := ⟨_, rfl⟩
  have h1 : FnS w1 B b f m k φ L C z ((n : Int) + 1) := by rw [hw1]; exact H.out.next _
  have hk1 : KpI [f] B w w1 := by rw [hw1]; exact (KpI.refl _ _ _).setCell (by simp) H.out.hf _
  have e3 := (h1.blk.cell 3).trans (show _ = some (vi ((n : Int) + 1)) from rfl)
  rw [← hw1]
  have H1 := Lib.hid (And.intro h1 hk1)
  clear hw1 h1 hk1 k3 f3
  go_wp2
  go_ret
  exact ⟨rfl, H1.out⟩
theorem op_any (k : Int) (hk : k = 2 ∨ k = 4) (w : World) : Calls Tryz.prog 174 #[vi k] w fun e w' => e = .returned (vi (k - 1)) ∧ w = w' := by
  rcases hk with rfl | rfl
  · go_enter Tryz.func174, Tryz.ntmps174
    go_wp2
    go_ret
    exact ⟨rfl, rfl⟩
  · go_enter Tryz.func174, Tryz.ntmps174
    go_wp2
    go_ret
    exact ⟨rfl, rfl⟩
def ValC (w0 : World) (B b f m k : Nat) (φ : List UInt8 → Int) (C : List (Int × ByteArray)) (z : Int) (x : Nat) (L : List InsI) (n r : Nat) (L' : List InsI) (n' : Nat) : Prop := ∀ w, Below B w0 w → FnS w B b f m k φ L C z n →
  Calls Tryz.prog 91 #[.pointer (some ⟨f, 0, none⟩), .pointer (some ⟨x, 0, none⟩)] w fun e w' => e = .returned (vi r) ∧ FnS w' B b f m k φ L' C z n' ∧ KpI [b, f] B w w'
def WriteC (w0 : World) (B b f m k : Nat) (φ : List UInt8 → Int) (C : List (Int × ByteArray)) (z : Int) (x : Nat) (r : Nat) (L : List InsI) (n : Nat) (L' : List InsI) (n' : Nat) : Prop := ∀ w, Below B w0 w → FnS w B b f m k φ L C z n →
  Calls Tryz.prog 137 #[.pointer (some ⟨f, 0, none⟩), .pointer (some ⟨x, 0, none⟩), vi r] w fun e w' => e = .returned (.tuple #[]) ∧ FnS w' B b f m k φ L' C z n' ∧ KpI [b, f] B w w'
section
variable {w0 : World} {B b f m k : Nat} {φ : List UInt8 → Int} {C : List (Int × ByteArray)} {z : Int}
set_option maxHeartbeats 2000000 in
theorem val_name {x : Nat} {s : ByteArray} (hs : s.size ≤ 16) {r : Nat} (hr : φ s.data.toList = r) (hP : ∀ W, Below B w0 W → PT W x (.name s)) (L : List InsI) (n : Nat) : ValC w0 B b f m k φ C z x L n r L n := fun w hb h => by
  obtain ⟨at', hB⟩ := hP w hb
  have e0 := (hB.cell 0).trans (show _ = some (vi 1) from rfl)
  have e2 := (hB.cell 2).trans (show _ = some (.string s) from rfl)
  have g1 := (h.blk.cell 1).trans (show _ = some (.map (some m)) from rfl)
  have hl := MapS.look (w := w.drew) h.map s (by simp [maxLen]; omega)
  rw [hr] at hl
  have H := Lib.hid h
  clear h hB hP hb
  go_enter Tryz.func91, Tryz.ntmps91
  go_upto_region 2 with (fail)
  go_region
  go_wp2
  go_ret
  exact ⟨rfl, H.out.drew, (KpI.refl _ _ _).drew⟩
set_option maxRecDepth 100000 in
set_option maxHeartbeats 2000000 in
theorem write_num {x : Nat} {v : Int} (r : Nat) (hP : ∀ W, Below B w0 W → PT W x (.num v)) (L : List InsI) (hL : L.length ≤ 1000) (n : Nat) (hB : B ≤ w0.heap.size) : WriteC w0 B b f m k φ C z x r L n (L ++ [⟨5, r, v, 0⟩]) n := fun w hb h => by
  have HP := Lib.hid (fun W (hW : Below B w W) => hP W (hb.trans hW))
  have HBS := Lib.hid (Nat.le_trans hB hb.size)
  have KS : Hid (∀ W, Below B w W → Blk W f 159 #[.pointer (some ⟨b, 0, none⟩), .map (some m), vi z, vi n] → W.cell? ⟨f, 0, none⟩ = some (.pointer (some ⟨b, 0, none⟩)) ∧ W.cell? ⟨x, 1, none⟩ = some (vi v)) := Lib.hid fun W hW hf => by
    obtain ⟨at', hB⟩ := HP.out W hW
    exact ⟨(hf.cell 0).trans rfl, (hB.cell 1).trans rfl⟩
  have e0 : w.cell? ⟨x, 0, none⟩ = some (vi 0) := by
    obtain ⟨at', hB⟩ := HP.out w (Below.refl _ _)
    exact (hB.cell 0).trans rfl
  have H := Lib.hid h
  have HA := Lib.hid (fun W (hW : B ≤ W.heap.size) (hS : WS W B b L C) => wadd_any B b L C 5 r v 0 hL W hW hS)
  clear h hP hb hL hB
  go_enter Tryz.func137, Tryz.ntmps137
  go_upto_region 4 with (fail)
  refine wp_region_held_drew (S := fun W => W.cell? ⟨f, 0, none⟩ = some (.pointer (some ⟨b, 0, none⟩)) ∧ W.cell? ⟨x, 1, none⟩ = some (vi v)) (by kernel_rfl) (KS.out _ ((KpI.refl [b] B w).drew).below H.out.blk) (fun hHeld => ?_)
  refine tkH 0 ?_
  refine tkH 1 ?_
  refine tkH 2 ?_
  refine tkH 3 ?_
  refine tkH 4 ?_
  refine tkH 5 ?_
  refine tkH 6 ?_
  refine tkH 7 ?_
  refine tkH 8 ?_
  refine stH 9 (fun K hK => ?_)
  go_simp
  refine (HA.out w.drew HBS.out H.out.ws).mono ?_
  rintro _ w1 ⟨rfl, hW1, hK1⟩
  have hk1 : KpI [b] B w w1 := ((KpI.refl [b] B w).drew).trans hK1
  have hF1 := H.out.kp1 hW1 hk1
  have H1 := Lib.hid (And.intro hF1 (hk1.more (Y := [b, f]) (by simp)))
  clear hW1 hK1 hk1 hF1
  refine hK.out _ _ (KS.out _ H1.out.2.below H1.out.1.blk) (fun hHeld => ?_)
  clear hK K
  (try simp only [Act.put, List.setIfInBounds_toArray, List.set_cons_zero, List.set_cons_succ])
  refine wpAnyH_done (by kernel_rfl) ?_ _
  go_wp2
  go_end0
  exact ⟨rfl, H1.out⟩
end
end Go.Proofs.YtpkhcncempoohaaGreatDoor
