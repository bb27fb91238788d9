/- How many numbers are in a set. -/
import Derived.Test.YtnhmgokjijlhbaaTh
import Derived.Test.YtnhmgokjijlhbaaFA
namespace Go.AM
open Go.Proofs

variable {R : Type}

/-- How many of the first twelve numbers are in a set. -/
def pop (n : Nat) : Nat := (List.range 12).countP fun i => n.testBit i

noncomputable def cntF (n : Int) : Int := match f101 (fun _ _ _ => none) 0 (.int .u64 n) ⟨fun _ => none, 0, 0⟩ with
  | some (.int _ z, _) => z
  | _ => 0

theorem f101_eq (n : Int) (h : H) : f101 rn 0 (.int .u64 n) h = some (iv (cntF n), h) := by kernel_rfl

theorem cnt_all : ((List.range 4096).all fun n => decide (cntF (n : Int) = (pop n : Int))) = true := by decide +kernel

theorem pop_all : ((List.range 4096).all fun n => decide (n = 0) || (decide (pop (n &&& (n - 1)) + 1 = pop n) && decide (n &&& (n - 1) < n))) = true := by decide +kernel
theorem pop_pos_all : ((List.range 4096).all fun n => decide (n = 0) || decide (0 < pop n)) = true := by decide +kernel

theorem pop_next {n : Nat} (h0 : 0 < n) (h : n < 4096) : pop (n &&& (n - 1)) + 1 = pop n ∧ n &&& (n - 1) < n := by
  have := List.all_eq_true.1 pop_all n (List.mem_range.2 h)
  simp only [Bool.or_eq_true, Bool.and_eq_true, decide_eq_true_iff] at this
  rcases this with h1 | h1
  · omega
  · exact h1

theorem pop_pos {n : Nat} (h0 : 0 < n) (h : n < 4096) : 0 < pop n := by
  have := List.all_eq_true.1 pop_pos_all n (List.mem_range.2 h)
  simp only [Bool.or_eq_true, decide_eq_true_iff] at this
  omega

theorem pop_zero : pop 0 = 0 := by decide
theorem pop_le (n : Nat) : pop n ≤ 12 := by
  unfold pop
  exact Nat.le_trans List.countP_le_length (by simp)

theorem s85 {n : Nat} (hn : n < 4096) (h : H) : rn 85 #[.int .u64 n] h = some (iv (pop n), h) := by
  have hp : cntF n = (pop n : Int) := of_decide_eq_true (List.all_eq_true.1 cnt_all n (List.mem_range.2 hn))
  have e101 : rn 101 #[.int .u64 n] h = some (iv (pop n), h) := by
    rw [← hp]
    exact p101 (k := 0) (f101_eq n h) rfl (.refl _)
  refine p85 (k := 0) ?_ rfl (.refl _)
  unfold f85
  rw [calls_eq (xs := [.int .u64 n]) e101, asI_int]

attribute [local simp] nx_eq nx_new nx_set blk_new blk_set asI_int asK_int asB_bool asP_ptr al_eq bx_eq len_slice onE_exit onE_ret onR_ret Value.cells d3 d4 d22 d27 d45 d47 d50 d52 d67 d88 d89 w22 w27 cell_new cell_set rd_new rd_set off eq lt le ifB gv out eqF1 eqF2 eqF3 eqF4 eqF5 eqF6 eqF7 eqF8 ext20 ext21

/-- The least of the smallest sets that no timetable keeps. -/
def blameIn (p e : Int) (l : List Sp) (s : Nat) : Option Nat := (List.range (2 ^ l.length)).findSome? fun set => if pop set = s + 1 ∧ firstP p l set e.toNat [] = none then some set else none
def blameP (p e : Int) (l : List Sp) : Option Nat := (List.range l.length).findSome? (blameIn p e l)

theorem wr64u {n : Nat} (h : n < 4096) : wr .u64 (n : Int) = n := by
  unfold wr IntKind.wrap
  show (n : Int) % 2 ^ 64 = n
  omega

set_option maxHeartbeats 1000000 in
theorem s51 {p e : Int} {sl : Value} {l : List Sp} {h : H} (hs : SlR h 67 4 sl (l.map Sp.cells)) :
    rn 51 #[.agg #[iv p, iv e, sl]] h = some (if tabOk p e l = true then (match blameP p e l with | some s => .tuple #[iv (s : Nat), iv 0] | none => .tuple #[iv 0, iv 4]) else .tuple #[iv 0, iv 2], h) := by
  have x1 := Ext.new h (.row [iv p, iv e, sl] 52 true)
  have hb1 : (h.new (.row [iv p, iv e, sl] 52 true)).blk h.nx = some (.row [iv p, iv e, sl] 52 true) := blk_new_self _ _
  have hn1 : h.nx < (h.new (.row [iv p, iv e, sl] 52 true)).nx := Nat.lt_succ_self _
  have kbx : ∀ (K : H → Option (Value × H)), bx h 52 (.agg #[iv p, iv e, sl]) K = K (h.new (.row [iv p, iv e, sl] 52 true)) := fun K => rfl
  have hs1 := hs.ext x1
  generalize h.new (.row [iv p, iv e, sl] 52 true) = h1 at *
  have c71 := fun (K : Value → H → Option (Value × H)) => calls_eq (K := K) (xs := [.agg #[iv p, iv e, sl]]) (s71 (p := p) (e := e) hs1)
  have hsn : ∀ {T : Type} (K : Int → Option T), len sl K = K (l.length : Int) := fun K => by rw [hs.len]; simp
  by_cases hv : tabOk p e l = true
  · rw [if_pos hv]
    have hl12 : l.length ≤ 12 := by simp [tabOk] at hv; omega
    have h4096 : 2 ^ l.length ≤ 4096 := Nat.pow_le_pow_right (n := 2) (by omega) hl12
    have hshl : AM.shl .i64 1 (l.length : Int) = ((2 ^ l.length : Nat) : Int) := shl1_nat (by omega)
    have inner : ∀ (s : Nat) (w0 w1 : Value) (g : H), Ext h1 g → s < l.length → ∃ ee ws' g', lpGo (f51_l2 rn 200010 h [w0, w1, iv (s + 1 : Nat)] l.length) 200010 [w0, w1, iv 0] g = some (ee, ws', g') ∧ Ext g g' ∧
        (match stO (blameIn p e l s) with
          | .inl _ => ee = .exit 2 ∧ ws' = [w0, w1, iv (2 ^ l.length : Nat)]
          | .inr r => ee = .ret ∧ ∃ a, ws' = [iv (r : Nat), iv 0, a]) := by
      intro s w0 w1 g xg hsl
      obtain ⟨ee, ws', g', hlp, hres⟩ := lp_rel (σ := Unit) (ρ := Nat) (F := f51_l2 rn 200010 h [w0, w1, iv (s + 1 : Nat)] l.length) (k := 200010) (l := List.range (2 ^ l.length))
        (fun _ (set : Nat) _ => stO (if pop set = s + 1 ∧ firstP p l set e.toNat [] = none then some set else none))
        (fun i _ ws g' => Ext g g' ∧ ws = [w0, w1, iv i])
        (fun r ee ws g' => ee = .ret ∧ Ext g g' ∧ ∃ a, ws = [iv (r : Nat), iv 0, a]) 2 (ws := [w0, w1, iv 0]) (h := g) (s0 := ())
        ⟨.refl _, rfl⟩ (by simp; omega)
        (by
          rintro _ ws g' ⟨_, rfl⟩
          rw [List.length_range]
          unfold f51_l2
          rw [show AM.gv [w0, w1, iv (2 ^ l.length : Nat)] 2 = iv (2 ^ l.length : Nat) from rfl, asI_int, hshl]
          rw [show AM.lt ((2 ^ l.length : Nat) : Int) ((2 ^ l.length : Nat) : Int) = false by simp, ifB_false]
          rfl)
        (by
          rintro i set _ ws g2 hx ⟨x2, rfl⟩
          have hi := (List.getElem?_eq_some_iff.1 hx).1
          rw [List.length_range] at hi
          rw [List.getElem?_range hi] at hx
          cases hx
          have hadd : add .i64 (i : Int) 1 = (i : Int) + 1 := add64 (by omega) (by omega)
          have c85 := fun (K : Value → H → Option (Ex × List Value × H)) => calls_eq (K := K) (xs := [.int .u64 i]) (s85 (n := i) (by omega) g2)
          have hlt : AM.lt (i : Int) ((2 ^ l.length : Nat) : Int) = true := by rw [AM.lt, decide_eq_true_iff]; omega
          have hbg := ((xg.trans x2).blk _ hn1).trans hb1
          have start : f51_l2 rn 200010 h [w0, w1, iv (s + 1 : Nat)] l.length [w0, w1, iv i] g2 = (if pop i = s + 1 then
              (calls rn g2 77 [.agg #[iv p, iv e, sl], iv i] fun v7 h6 => eqv Try.prog 22 v7 (.slice none 0 0) fun q1 => ifB q1 (AM.out .ret [iv i, iv 0, iv i] h6) (AM.out .normal [w0, w1, iv ((i : Int) + 1)] h6)) else
              some (.normal, [w0, w1, iv ((i : Int) + 1)], g2)) := by
            unfold f51_l2
            rw [show AM.gv [w0, w1, iv i] 2 = iv i from rfl, asI_int, hshl, hlt, ifB_true, asI_int, wr64u (by omega), c85, asI_int, show AM.gv [w0, w1, iv (s + 1 : Nat)] 2 = iv (s + 1 : Nat) from rfl, asI_int]
            by_cases hp : pop i = s + 1
            · rw [if_pos hp, hp, show AM.eq ((s + 1 : Nat) : Int) ((s + 1 : Nat) : Int) = true by simp, ifB_true, nx_eq, d52, rd_of hbg]
              rw [if_pos (by simp)]
              simp [hadd]
            · rw [if_neg hp, show AM.eq (pop i : Int) ((s + 1 : Nat) : Int) = false by simp; omega, ifB_false, asI_int, hadd]
              rfl
          rw [start]
          by_cases hp : pop i = s + 1
          · rw [if_pos hp]
            obtain ⟨v', h', e77, x', hres⟩ := s77 (set := i) hv (by omega) ((hs1.ext xg).ext x2)
            have c77 := fun (K : Value → H → Option (Ex × List Value × H)) => calls_eq (K := K) (xs := [.agg #[iv p, iv e, sl], iv i]) e77
            rw [c77]
            rcases hres with ⟨hno, rfl⟩ | ⟨r, hyes, hrl, hsr⟩
            · rw [if_pos ⟨hp, hno⟩]
              simp only [stO]
              have kn : ∀ (K : Bool → Option (Ex × List Value × H)), eqv Try.prog 22 (.slice none 0 0) (.slice none 0 0) K = K true := fun K => by unfold eqv; rw [nil22]
              rw [kn, ifB_true]
              exact ⟨_, _, _, rfl, by simp, rfl, x2.trans x', _, rfl⟩
            · rw [if_neg (by rintro ⟨_, h⟩; rw [hyes] at h; cases h)]
              simp only [stO]
              have hr : r ≠ [] := by
                have he6 : 1 ≤ e ∧ e ≤ 6 := by simp only [tabOk, Bool.and_eq_true, decide_eq_true_iff] at hv; omega
                intro e; subst e; simp at hrl; omega
              rw [nil22e hsr hr, ifB_false]
              exact ⟨_, _, _, rfl, rfl, x2.trans x', rfl⟩
          · rw [if_neg hp, if_neg (by rintro ⟨h, _⟩; exact hp h)]
            simp only [stO]
            exact ⟨_, _, _, rfl, rfl, x2, rfl⟩)
      rw [itL_find, show ((List.range (2 ^ l.length)).findSome? fun set => if pop set = s + 1 ∧ firstP p l set e.toNat [] = none then some set else none) = blameIn p e l s from rfl] at hres
      cases hb : blameIn p e l s with
      | none =>
        rw [hb] at hres
        obtain ⟨rfl, x, rfl⟩ := hres
        exact ⟨_, _, _, hlp, x, rfl, by rw [List.length_range]⟩
      | some r =>
        rw [hb] at hres
        obtain ⟨_, rfl, x, a, rfl⟩ := hres
        exact ⟨_, _, _, hlp, x, rfl, a, rfl⟩
    obtain ⟨ee, ws', g', hlp, hres⟩ := lp_rel (σ := Unit) (ρ := Nat) (F := f51_l1 rn 200010 h) (k := 200010) (l := List.range l.length)
      (fun _ (s : Nat) _ => stO (blameIn p e l s))
      (fun i _ ws g' => Ext h1 g' ∧ ws = [iv 0, iv 0, iv ((i + 1 : Nat) : Int)])
      (fun r ee ws g' => ee = .ret ∧ Ext h1 g' ∧ ∃ a, ws = [iv (r : Nat), iv 0, a]) 0 (ws := [iv 0, iv 0, iv 1]) (h := h1) (s0 := ())
      ⟨.refl _, rfl⟩ (by simp; omega)
      (by
        rintro _ ws g' ⟨x, rfl⟩
        rw [List.length_range]
        have hbg := (x.blk _ hn1).trans hb1
        simp [f51_l1, cell_of hbg, hsn]
        omega)
      (by
        rintro i s _ ws g2 hx ⟨x2, rfl⟩
        have hi := (List.getElem?_eq_some_iff.1 hx).1
        rw [List.length_range] at hi
        rw [List.getElem?_range hi] at hx
        cases hx
        have hbg := (x2.blk _ hn1).trans hb1
        have hadd : add .i64 ((i + 1 : Nat) : Int) 1 = ((i + 1 + 1 : Nat) : Int) := by rw [add64 (by omega) (by omega)]; omega
        obtain ⟨ee, ws', g', hl, xg, hm⟩ := inner i (iv 0) (iv 0) g2 x2 hi
        have hle : AM.le ((i + 1 : Nat) : Int) (l.length : Int) = true := by rw [AM.le, decide_eq_true_iff]; omega
        have start : f51_l1 rn 200010 h [iv 0, iv 0, iv ((i + 1 : Nat) : Int)] g2 = onE ee 2 (AM.out .normal [AM.gv ws' 0, AM.gv ws' 1, iv ((i + 1 + 1 : Nat) : Int)] g') (onR ee (AM.out .ret [AM.gv ws' 0, AM.gv ws' 1, iv ((i + 1 : Nat) : Int)] g')) := by
          unfold f51_l1
          simp only [nx_eq, d50, cell_of hbg, AM.off, List.getElem?_cons_succ, List.getElem?_cons_zero, Option.bind_some, hsn]
          rw [show AM.gv [iv 0, iv 0, iv ((i + 1 : Nat) : Int)] 2 = iv ((i + 1 : Nat) : Int) from rfl, asI_int, hle, ifB_true, nn_ge (by omega)]
          refine (lp_eq hl).trans ?_
          rw [asI_int, hadd]
        rw [start]
        cases hb : blameIn p e l i with
        | none =>
          rw [hb] at hm
          obtain ⟨rfl, rfl⟩ := hm
          exact ⟨_, _, _, rfl, rfl, x2.trans xg, rfl⟩
        | some r =>
          rw [hb] at hm
          obtain ⟨rfl, a, rfl⟩ := hm
          exact ⟨_, _, _, rfl, by simp, rfl, x2.trans xg, _, rfl⟩)
    rw [itL_find, show (List.range l.length).findSome? (blameIn p e l) = blameP p e l from rfl] at hres
    have hF : f51 rn 200010 (.agg #[iv p, iv e, sl]) h = onE ee 0 (some ((.tuple #[(.int .i64 0), (.int .i64 4)]), g')) (onR ee (some ((.tuple #[AM.gv ws' 0, AM.gv ws' 1]), g'))) := by
      unfold f51
      rw [kbx]
      simp only [nx_eq, d52, rd_of hb1, AM.off]
      rw [if_pos (by simp)]
      simp only [List.drop_zero, List.take_succ_cons, List.take_zero, Option.bind_some]
      rw [c71, hv, asB_bool, show (!true) = false from rfl, ifB_false]
      exact (lp_eq hlp).trans rfl
    cases hb : blameP p e l with
    | none =>
      rw [hb] at hres
      obtain ⟨rfl, x, rfl⟩ := hres
      exact p51 (k := 200010) (h1 := g') (by rw [hF]; simp) rfl (x1.trans x)
    | some r =>
      rw [hb] at hres
      obtain ⟨_, rfl, x, a, rfl⟩ := hres
      exact p51 (k := 200010) (h1 := g') (by rw [hF]; simp) rfl (x1.trans x)
  · rw [if_neg hv]
    have hv' : tabOk p e l = false := by simpa using hv
    refine p51 (k := 0) (h1 := h1) ?_ rfl x1
    unfold f51
    rw [kbx]
    simp [rd_of hb1, c71, hv']

end Go.AM
