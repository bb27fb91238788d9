/- Orient: the whole. -/
import Derived.Test.YtakhklelgcfgjaaDoorHc
namespace Go.AM
open Go.Proofs

variable {R : Type}

attribute [local simp] nx_eq nx_new nx_set blk_new blk_set asI_int asK_int asB_bool asP_ptr al_eq bx_eq len_slice onE_exit onE_ret onR_ret Value.cells cell_new cell_set rd_new rd_set off eq lt le ifB gv out ext20 ext21

set_option maxHeartbeats 1000000 in
theorem s27 {v : Value} {g : List Nat} {h : H} (hg : GrN g) (hval : validG (g.map Int.ofNat) = true) (hs : SlR h 3 1 v (cellsN g)) :
    ∃ v' e h', rn 27 #[v] h = some (.tuple #[v', iv e], h') ∧ Exw h h' ∧
      if firmP g = true then e = 0 ∧ ∃ T, Tree g T ∧ SlR h' 92 2 v' (cellsQ (streetsP g T)) else v' = .slice none 0 0 ∧ e = 4 := by
  have hlen := hg.len
  have hpos := hg.pos
  have c63 := fun (K : Value → H → Option (Value × H)) => calls_eq (K := K) (xs := [v]) (s63 (l := g.map Int.ofNat) (h := h) (by rw [cellsN_eq]; exact hs))
  rw [if_pos hval] at c63
  obtain ⟨h3, hh3⟩ : ∃ h3, h3 = (h.new (.row [.slice none 0 0] 78 true)).set h.nx (.row [v] 78 true) := ⟨_, rfl⟩
  have hw3 : wrc 1 (h.new (.row [.slice none 0 0] 78 true)) h.nx 0 v = some h3 := by
    rw [hh3]; unfold wrc; rw [blk_new_self]
    obtain ⟨x, y, z, rfl⟩ := hs.isSl
    rfl
  have hb3 : h3.blk h.nx = some (.row [v] 78 true) := by rw [hh3]; exact blk_set_self _ _ _
  have hn3 : h3.nx = h.nx + 1 := by rw [hh3]; rfl
  have x3 : Ext h h3 := by rw [hh3]; exact ((Ext.refl h).new' _).set (Nat.le_refl _) _
  have hs3 := hs.ext x3
  have c65 := fun (K : Value → H → Option (Value × H)) => calls_eq (K := K) (xs := [v]) (s65 hg.toGrB hs3)
  have c64 := fun (K : Value → H → Option (Value × H)) => calls_eq (K := K) (xs := [v, iv (allN g : Nat)]) (s64 hg.toGrB hs3 (allN_lt g))
  have ldt : ∀ {g' : H} {T : Type} (hx : Ext h3 g') (K : Value → Option T), (ld Tryd.prog g' 78 h.nx 0 K) = K v := fun hx K => by rw [d78, cell_of ((hx.blk _ (by omega)).trans hb3)]; rfl
  have start : ∀ r, (ifB (!connS g (allN g)) (some ((.tuple #[(.slice none 0 0), (.int .i64 4)]), h3)) (calls rn h3 69 [v] fun v9 h6 =>
        len v9 fun n1 =>
        ifB (AM.lt 0 n1) (
          some ((.tuple #[(.slice none 0 0), (.int .i64 4)]), h6)) (
          mkm h6 fun h7 =>
          mup Tryd.prog h7 87 (.map (some (nx h6))) (.int .i64 0) (.int .i64 0) fun h8 =>
          al h8 87 [(.map none)] fun h9 =>
          st Tryd.prog h9 87 (nx h8) 0 (.map (some (nx h6))) fun h10 =>
          mkm h10 fun h11 =>
          mup Tryd.prog h11 87 (.map (some (nx h10))) (.int .i64 0) (.int .i64 (-1)) fun h12 =>
          al h12 87 [(.map none)] fun h13 =>
          st Tryd.prog h13 87 (nx h12) 0 (.map (some (nx h10))) fun h14 =>
          al h14 88 [.nilFunc] fun h15 =>
          st Tryd.prog h15 88 (nx h14) 0 (.func (.func 75) #[] #[(pt h.nx 0), (pt (nx h8) 0), (pt (nx h12) 0), (pt (nx h14) 0)]) fun h16 =>
          ld Tryd.prog h16 88 (nx h14) 0 fun v10 =>
          callsV rn h16 v10 [(.int .i64 0)] fun _ h17 =>
          ld Tryd.prog h17 78 h.nx 0 fun v12 =>
          calls rn h17 77 [v12] fun v13 h18 =>
          len v13 fun n2 =>
          lp 200 (f27_l1 rn 200 h8 h12 v13 n2) [(.slice none 0 0), (.int .i64 0)] h18 fun e0 ws1 h30 =>
          onE e0 0 (
            some ((.tuple #[AM.gv ws1 0, (.int .i64 0)]), h30)) (
            none)))) = r → f27 rn 200 v h = r := by
    intro r hr
    unfold f27
    rw [c63]
    simp only [ext20, ext21, asB_bool, al_eq, w78, nx_eq]
    rw [hw3, Option.bind_some, show (!true) = false from rfl, ifB_false, ldt (.refl _), ldt (.refl _), c65, asI_int]
    simp only [freq, same_self, hn3, decide_eq_true (show h.nx < h.nx + 1 by omega), Bool.and_self, ck_true]
    rw [c64, asB_bool, ldt (.refl _)]
    exact hr
  by_cases hcon : connS g (allN g) = true
  · obtain ⟨v9, h6, e69, x6, hs9⟩ := s69 hg.toGrB hs3
    have c69 := fun (K : Value → H → Option (Value × H)) => calls_eq (K := K) (xs := [v]) e69
    have hn9 : ∀ {T : Type} (K : Int → Option T), len v9 K = K ((bridgesP g).length : Int) := fun K => by rw [hs9.len]; simp
    by_cases hbr : bridgesP g = []
    · have hfirm : firmP g = true := by unfold firmP; rw [hcon, decide_eq_true hbr]; rfl
      simp only [hfirm, if_true]
      obtain ⟨h8, h10, es, c, em1, n8, n10, b8, kv8, b10, x10⟩ := mk_map (R := Value × H) h6 0
      obtain ⟨h12, h14, es', c', em2, n12, n14, b12, kv12, b14, x14⟩ := mk_map (R := Value × H) h10 (-1)
      obtain ⟨h16, hh16⟩ : ∃ h16, h16 = (h14.new (.row [.nilFunc] 88 true)).set h14.nx (.row [visF h.nx h8.nx h12.nx h14.nx] 88 true) := ⟨_, rfl⟩
      have hw16 : wrc 1 (h14.new (.row [.nilFunc] 88 true)) h14.nx 0 (visF h.nx h8.nx h12.nx h14.nx) = some h16 := by
        rw [hh16]; unfold wrc; rw [blk_new_self]; rfl
      have hb16 : h16.blk h14.nx = some (.row [visF h.nx h8.nx h12.nx h14.nx] 88 true) := by rw [hh16]; exact blk_set_self _ _ _
      have hn16 : h16.nx = h14.nx + 1 := by rw [hh16]; rfl
      have x16 : Ext h14 h16 := by rw [hh16]; exact ((Ext.refl h14).new' _).set (Nat.le_refl _) _
      have xa : Ext h3 h16 := ((x6.toExt.trans x10).trans x14).trans x16
      have x1016 : Ext h10 h16 := x14.trans x16
      have hn36 := x6.nx
      have ht16 : HT g ([] ++ [(0, -1)]) h.nx h8.nx h12.nx h14.nx h6.nx h10.nx v h16 := by
        refine ⟨(xa.blk _ (by omega)).trans hb3, ?_, ?_, hb16, hs3.ext xa, ⟨es, c, (x1016.blk _ (by omega)).trans b8, kv8⟩, ⟨es', c', (x16.blk _ (by omega)).trans b12, kv12⟩, by omega, by omega, by omega, by omega, by omega, by omega, by omega⟩
        · rw [n8]; exact (x1016.blk _ (by omega)).trans b10
        · rw [n12]; exact (x16.blk _ (by omega)).trans b14
      obtain ⟨X, h17, e75, ht17, f17, vis⟩ := s75 hg g.length [] 0 (-1) h16 (wf0 hg) (by simp) ht16
      have tree := vis.tree
      rw [List.nil_append] at ht17
      generalize hT : [(0, -1)] ++ X = T at *
      have c75 := fun (K : Value → H → Option (Value × H)) => calls_eq (K := K) (xs := [.int .i64 0, pt h.nx 0, pt h8.nx 0, pt h12.nx 0, pt h14.nx 0]) e75
      obtain ⟨v13, h18, e77, x18, hap0⟩ := s77 hg.toGrB ht17.s
      have c77 := fun (K : Value → H → Option (Value × H)) => calls_eq (K := K) (xs := [v]) e77
      have ht18 := ht17.ext x18.toExt
      have hel := edges_len g hg.toGrB
      have hn13 : ∀ {T : Type} (K : Int → Option T), len v13 K = K ((edgesP g).length : Int) := fun K => by rw [hap0.slR.len]; simp
      have hc0 : Conn g (allN g) := (conn_iff hg (allN_lt g)).1 hcon
      obtain ⟨sv', w', h30, hl, xg, hap'⟩ := or_loop hg tree hc0 ht18 rfl rfl hap0.slR
      have x17 : Ext h h17 := by
        have q1 := (x3.trans xa)
        refine ⟨by have := q1.nx; have := f17.nx; omega, fun b hb => ?_⟩
        rw [f17.blk b (by have := q1.nx; omega) (by omega) (by omega)]
        exact q1.blk b hb
      have xend : Ext h h30 := (x17.trans x18.toExt).trans xg
      obtain ⟨h31, e31, m31, w31⟩ := x27 (k := 200) (v0 := v) (h := h) (h1 := h30) (v := .tuple #[sv', iv 0]) (start _ (by
        rw [hcon, show (!true) = false from rfl, ifB_false, c69, hn9, hbr, show AM.lt 0 (([] : List (Nat × Nat)).length : Int) = false from rfl, ifB_false, em1, em2, al_eq, w88]
        simp only [nx_eq]
        rw [hw16, Option.bind_some, d88, cell_of hb16]
        rw [show ([visF h.nx h8.nx h12.nx h14.nx] : List Value)[0]? = some (visF h.nx h8.nx h12.nx h14.nx) from rfl, Option.bind_some, callsV_eq, show (#[] : Array Value).toList ++ [.int .i64 0] ++ (#[pt h.nx 0, pt h8.nx 0, pt h12.nx 0, pt h14.nx 0] : Array Value).toList = [.int .i64 0, pt h.nx 0, pt h8.nx 0, pt h12.nx 0, pt h14.nx 0] from rfl, c75]
        rw [d78, cell_of ht17.t, show ([v] : List Value)[0]? = some v from rfl, Option.bind_some, c77, hn13]
        refine (lp_eq hl).trans ?_
        rfl)) hap'.slR.notR2
      exact ⟨sv', 0, h31, e31, w31 xend, rfl, T, tree, hap'.slR.ext m31.ext⟩
    · have hfirm : firmP g = false := by unfold firmP; rw [hcon, decide_eq_false hbr]; rfl
      simp only [hfirm, Bool.false_eq_true, if_false]
      have hpos' : (bridgesP g).length ≠ 0 := by simpa using hbr
      obtain ⟨h2, e2, m2, w2⟩ := x27 (k := 200) (v0 := v) (h := h) (h1 := h6) (v := .tuple #[.slice none 0 0, iv 4]) (start _ (by
        rw [hcon, show (!true) = false from rfl, ifB_false, c69, hn9, lt_t (by omega), ifB_true])) rfl
      exact ⟨_, 4, h2, e2, w2 (x3.trans x6.toExt), rfl, rfl⟩
  · have hfirm : firmP g = false := by unfold firmP; rw [Bool.eq_false_iff.2 hcon]; rfl
    simp only [hfirm, Bool.false_eq_true, if_false]
    obtain ⟨h2, e2, m2, w2⟩ := x27 (k := 200) (v0 := v) (h := h) (h1 := h3) (v := .tuple #[.slice none 0 0, iv 4]) (start _ (by
      rw [Bool.eq_false_iff.2 hcon, show (!false) = true from rfl, ifB_true])) rfl
    exact ⟨_, 4, h2, e2, w2 x3, rfl, rfl⟩

end Go.AM
