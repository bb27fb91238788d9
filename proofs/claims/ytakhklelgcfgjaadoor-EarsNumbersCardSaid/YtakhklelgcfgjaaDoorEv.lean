/- One-way streets: the two checks. -/
import Derived.Test.YtakhklelgcfgjaaDoorEu
import Derived.Test.YtakhklelgcfgjaaDoorF7
namespace Go.AM
open Go.Proofs

variable {R : Type}

attribute [local simp] nx_eq nx_new nx_set blk_new blk_set asI_int asK_int asB_bool asP_ptr al_eq bx_eq len_slice onE_exit onE_ret onR_ret Value.cells cell_new cell_set rd_new rd_set off eq lt le ifB gv out ext20 ext21

abbrev cellsQ (l : List (Int × Int)) : List (List Value) := l.map fun (q : Int × Int) => [iv q.1, iv q.2]

theorem kbld92 (a b : Int) (K : Value → Option R) : bld Tryd.prog 92 [(0, .int .i64 a), (1, .int .i64 b)] K = K (.agg #[.int .i64 a, .int .i64 b]) := bld_some (by kernel_rfl)
theorem kbld94 (a b : Int) (K : Value → Option R) : bld Tryd.prog 94 [(0, .int .i64 a), (1, .int .i64 b)] K = K (.agg #[.int .i64 a, .int .i64 b]) := bld_some (by kernel_rfl)
theorem bls38 (a b : Int) (h : H) : buildSlice Tryd.prog 38 1 [(0, .agg #[.int .i64 a, .int .i64 b])] h = some (.slice (some ⟨h.nx, 0, none⟩) 1 1, h.new (.row [iv a, iv b] 92 true)) := by kernel_rfl
theorem bls37 (a b : Int) (h : H) : buildSlice Tryd.prog 37 1 [(0, .agg #[.int .i64 a, .int .i64 b])] h = some (.slice (some ⟨h.nx, 0, none⟩) 1 1, h.new (.row [iv a, iv b] 94 true)) := by kernel_rfl
theorem app38 : okApp Tryd.prog 38 92 2 = true := by kernel_rfl
theorem app37 : okApp Tryd.prog 37 94 2 = true := by kernel_rfl
theorem keqv92 (a b c d : Int) (K : Bool → Option R) : eqv Tryd.prog 92 (.agg #[.int .i64 a, .int .i64 b]) (.agg #[.int .i64 c, .int .i64 d]) K = K (a == c && b == d) := by
  have : binOp Tryd.prog .eql 92 (.agg #[iv a, iv b]) (.agg #[iv c, iv d]) = (if (a == c) = true then (if (b == d) = true then some true else some false) else some false).map Value.bool := by kernel_rfl
  unfold eqv
  rw [this]
  cases h1 : (a == c) <;> cases h2 : (b == d) <;> simp
theorem keqv94 (a b c d : Int) (K : Bool → Option R) : eqv Tryd.prog 94 (.agg #[.int .i64 a, .int .i64 b]) (.agg #[.int .i64 c, .int .i64 d]) K = K (a == c && b == d) := by
  have : binOp Tryd.prog .eql 94 (.agg #[iv a, iv b]) (.agg #[iv c, iv d]) = (if (a == c) = true then (if (b == d) = true then some true else some false) else some false).map Value.bool := by kernel_rfl
  unfold eqv
  rw [this]
  cases h1 : (a == c) <;> cases h2 : (b == d) <;> simp

/-! ### Plain: the arrows of streets -/

/-- Is a pair of numbers an edge, in one of its directions? -/
def mtE (e : Nat × Nat) (x : Int × Int) : Bool := (x.1 == (e.1 : Int) && x.2 == (e.2 : Int)) || (x.1 == (e.2 : Int) && x.2 == (e.1 : Int))
def addA (g : List Nat) (a b : Nat) : List Nat := g.set a (nb g a ||| 2 ^ b)
def okZ (E : List (Nat × Nat)) (L : List (Int × Int)) : Bool := (E.zip L).all fun p => mtE p.1 p.2
def aheadP (n : Nat) (L : List (Int × Int)) : List Nat := L.foldl (fun g x => addA g x.1.toNat x.2.toNat) (List.replicate n 0)
def backP (n : Nat) (L : List (Int × Int)) : List Nat := L.foldl (fun g x => addA g x.2.toNat x.1.toNat) (List.replicate n 0)

theorem addA_len (g : List Nat) (a b : Nat) : (addA g a b).length = g.length := by simp [addA]

theorem GrB.addA {g : List Nat} (hg : GrB g) {a b : Nat} (hb : b < g.length) : GrB (addA g a b) := by
  refine ⟨by rw [addA_len]; exact hg.len, fun x hx => ?_⟩
  rw [addA_len]
  rcases List.mem_or_eq_of_mem_set hx with h | rfl
  · exact hg.lt x h
  · exact Nat.or_lt_two_pow (hg.nb_lt a) (Nat.pow_lt_pow_right (by omega) hb)

theorem grB_zero {n : Nat} (hn : n ≤ 10) : GrB (List.replicate n 0) := by
  refine ⟨by simpa using hn, fun x hx => ?_⟩
  rw [List.eq_of_mem_replicate hx]
  exact Nat.two_pow_pos _

theorem adj_zero (n a b : Nat) : adj (List.replicate n 0) a b = false := by
  unfold adj nb
  rw [List.getD_eq_getElem?_getD, List.getElem?_replicate]
  split <;> simp

theorem adj_addA {g : List Nat} {a b u v : Nat} (ha : a < g.length) : adj (addA g a b) u v = (adj g u v || decide (u = a ∧ v = b)) := by
  unfold adj AM.addA
  rw [nb_set ha]
  by_cases hu : u = a
  · subst hu
    rw [if_pos rfl, Nat.testBit_or, Nat.testBit_two_pow]
    congr 1
    simp [eq_comm]
  · rw [if_neg hu]; simp [hu]

theorem itL_ok {α σ : Type} {p : α → Bool} {g : α → σ → σ} : ∀ (l : List α) (i : Nat) (s : σ),
    itL (ρ := Unit) (fun _ x s => if p x = true then .inl (g x s) else .inr ()) l i s = if l.all p = true then .inl (l.foldl (fun s x => g x s) s) else .inr () := by
  intro l
  induction l with
  | nil => intro i s; rfl
  | cons x l ih =>
    intro i s
    by_cases hx : p x = true
    · simp only [itL, hx, if_true, ih, List.all_cons, Bool.true_and, List.foldl_cons]
    · simp only [itL, hx, if_false, List.all_cons, Bool.false_and, Bool.false_eq_true]

theorem two_folds {E : List (Nat × Nat)} : ∀ {L : List (Int × Int)} (_ : L.length = E.length) (A B : List Nat),
    (E.zip L).foldl (fun (s : List Nat × List Nat) p => (addA s.1 p.2.1.toNat p.2.2.toNat, addA s.2 p.2.2.toNat p.2.1.toNat)) (A, B) =
      (L.foldl (fun g x => addA g x.1.toNat x.2.toNat) A, L.foldl (fun g x => addA g x.2.toNat x.1.toNat) B) := by
  induction E with
  | nil => intro L hl A B; cases L with
    | nil => rfl
    | cons x L => simp at hl
  | cons e E ih =>
    intro L hl A B
    cases L with
    | nil => simp at hl
    | cons x L => exact ih (by simpa using hl) _ _

theorem one_fold {E : List (Nat × Nat)} : ∀ {L : List (Int × Int)} (_ : L.length = E.length) (A : List Nat),
    (E.zip L).foldl (fun (s : List Nat) p => addA s p.2.1.toNat p.2.2.toNat) A = L.foldl (fun g x => addA g x.1.toNat x.2.toNat) A := by
  induction E with
  | nil => intro L hl A; cases L with
    | nil => rfl
    | cons x L => simp at hl
  | cons e E ih =>
    intro L hl A
    cases L with
    | nil => simp at hl
    | cons x L => exact ih (by simpa using hl) _

theorem mtE_nat {e : Nat × Nat} {x : Int × Int} (h : mtE e x = true) : ∃ a c : Nat, x = ((a : Int), (c : Int)) ∧ ((a = e.1 ∧ c = e.2) ∨ (a = e.2 ∧ c = e.1)) := by
  unfold mtE at h
  simp only [Bool.or_eq_true, Bool.and_eq_true, beq_iff_eq] at h
  rcases h with ⟨h1, h2⟩ | ⟨h1, h2⟩
  · exact ⟨e.1, e.2, Prod.ext h1 h2, .inl ⟨rfl, rfl⟩⟩
  · exact ⟨e.2, e.1, Prod.ext h1 h2, .inr ⟨rfl, rfl⟩⟩

/-! ### A store -/

theorem getE0 {h : H} {v : Value} {E : List (Nat × Nat)} (hs : SlR h 32 2 v (cellsP E)) {i : Nat} {e : Nat × Nat} (he : E[i]? = some e) (K : Value → Option R) :
    (six v (i : Int) 2 fun b o => aix 2 0 (ld Tryd.prog h 3 b (at_ o 0 1) K)) = K (iv e.1) := by
  simp only [aix_in (show (0 : Int) ≤ 0 by omega) (show (0 : Int) < ((2 : Nat) : Int) by omega)]
  exact hs.ldF ag3 (by omega) (x := [iv e.1, iv e.2]) (by simp [he]) (j := 0) rfl K

theorem getE1 {h : H} {v : Value} {E : List (Nat × Nat)} (hs : SlR h 32 2 v (cellsP E)) {i : Nat} {e : Nat × Nat} (he : E[i]? = some e) (K : Value → Option R) :
    (six v (i : Int) 2 fun b o => aix 2 1 (ld Tryd.prog h 3 b (at_ o 1 1) K)) = K (iv e.2) := by
  simp only [aix_in (show (0 : Int) ≤ 1 by omega) (show (1 : Int) < ((2 : Nat) : Int) by omega)]
  exact hs.ldF ag3 (by omega) (x := [iv e.1, iv e.2]) (by simp [he]) (j := 1) rfl K

theorem or_calc {g : List Nat} (hg : GrB g) {a c : Nat} (hc : c < g.length) : AM.or .i64 (nb g a : Int) (AM.shl .i64 1 (c : Int)) = ((nb g a ||| 2 ^ c : Nat) : Int) := by
  have h1 := hg.nb_lt a
  have h2 := hg.pow
  have h3 : 2 ^ c < 1024 := Nat.lt_of_lt_of_le (Nat.pow_lt_pow_right (by omega) hc) h2
  have h4 : AM.shl .i64 1 (c : Int) = ((2 ^ c : Nat) : Int) := by
    have := shl_nat (a := 1) (p := c) (by omega) (by have := hg.len; omega)
    simpa using this
  rw [h4, or_nat (by omega) (by omega)]

/-- An arrow more. -/
theorem half {h : H} {q o1 o2 b : Nat} {v : Value} {g : List Nat} {a c : Nat} (hg : GrB g) (ha : a < g.length) (hc : c < g.length) (hia : IA h b v (g.map Int.ofNat))
    (h1 : h.cell q o1 = some (iv a)) (h2 : h.cell q o2 = some (iv c)) (K : H → Option R) :
    (ld Tryd.prog h 3 q o1 fun v17 => asI .i64 v17 fun n15 => six v n15 1 fun b10 b11 => ld Tryd.prog h 3 b10 b11 fun v18 => asI .i64 v18 fun n16 => ld Tryd.prog h 3 q o2 fun v19 => asI .i64 v19 fun n17 =>
      nn n17 (six v n15 1 fun b12 b13 => st Tryd.prog h 3 b12 b13 (.int .i64 (AM.or .i64 n16 (AM.shl .i64 1 n17))) K)) = K (h.set b (.row (((addA g a c).map Int.ofNat).map iv) 3 true)) := by
  simp only [d3, w3, h1, h2, Option.bind_some, asI_int, nn_ge (show (0 : Int) ≤ (c : Int) by omega)]
  rw [hia.get (by omega) (x := (nb g a : Nat)) (by rw [Int.toNat_natCast]; exact nb_get ha), asI_int, hia.put (by omega) (by simpa using ha), or_calc hg hc, Int.toNat_natCast, hia.wrc (i := a) (by simpa using ha), set_nat]
  rfl

theorem half_ia {h : H} {b : Nat} {v : Value} {g : List Nat} {a c : Nat} (hia : IA h b v (g.map Int.ofNat)) : IA (h.set b (.row (((addA g a c).map Int.ofNat).map iv) 3 true)) b v ((addA g a c).map Int.ofNat) := by
  have := hia.set a ((nb g a ||| 2 ^ c : Nat) : Int)
  rw [set_nat] at this
  exact this

/-! ### The program's loop -/

set_option maxHeartbeats 1000000 in
theorem s28_loop {v1 v5 v6 v7 : Value} {E : List (Nat × Nat)} {L : List (Int × Int)} {n b6 b7 : Nat} {h1 h : H} (hE : ∀ e ∈ E, e.1 < n ∧ e.2 < n) (hn : n ≤ 10) (hlen : L.length = E.length) (hm : E.length ≤ 100)
    (hs1 : SlR h1 92 2 v1 (cellsQ L)) (hs5 : SlR h1 32 2 v5 (cellsP E)) (x0 : Ext h1 h) (hb6 : h1.nx ≤ b6) (hb7 : h1.nx ≤ b7) (hne : b6 ≠ b7)
    (i6 : IA h b6 v6 ((List.replicate n 0).map Int.ofNat)) (i7 : IA h b7 v7 ((List.replicate n 0).map Int.ofNat)) :
    ∃ e w h', lpGo (f28_l1 rn 200 v1 v5 v6 v7 L.length) 200 [.bool false, iv 0, iv 0] h = some (e, w, h') ∧ Ext h1 h' ∧
      if okZ E L = true then e = .exit 0 ∧ IA h' b6 v6 ((aheadP n L).map Int.ofNat) ∧ IA h' b7 v7 ((backP n L).map Int.ofNat) ∧ GrB (aheadP n L) ∧ GrB (backP n L)
      else e = .ret ∧ AM.gv w 0 = .bool false ∧ AM.gv w 1 = iv 0 := by
  obtain ⟨e, w, h', hl, hr⟩ := lp_rel (F := f28_l1 rn 200 v1 v5 v6 v7 L.length) (k := 200) (l := E.zip L)
    (fun _ p (s : List Nat × List Nat) => if mtE p.1 p.2 = true then .inl (addA s.1 p.2.1.toNat p.2.2.toNat, addA s.2 p.2.2.toNat p.2.1.toNat) else .inr ())
    (fun i s ws g => ws = [.bool false, iv 0, iv i] ∧ Ext h1 g ∧ IA g b6 v6 (s.1.map Int.ofNat) ∧ IA g b7 v7 (s.2.map Int.ofNat) ∧ GrB s.1 ∧ GrB s.2 ∧ s.1.length = n ∧ s.2.length = n)
    (fun _ e ws g => e = .ret ∧ AM.gv ws 0 = .bool false ∧ AM.gv ws 1 = iv 0 ∧ Ext h1 g) 0 (ws := [.bool false, iv 0, iv 0]) (h := h) (s0 := (List.replicate n 0, List.replicate n 0))
    ⟨rfl, x0, i6, i7, grB_zero hn, grB_zero hn, by simp, by simp⟩ (by simp [hlen]; omega)
    (by
      rintro s ws g ⟨rfl, _⟩
      rw [List.length_zip, hlen, Nat.min_self]
      simp [f28_l1])
    (by
      rintro i ⟨e, x⟩ ⟨A, B⟩ ws g hx ⟨rfl, xg, iA, iB, gA, gB, lA, lB⟩
      dsimp only at *
      rw [List.getElem?_zip_eq_some] at hx
      obtain ⟨he, hx⟩ := hx
      have hi := (List.getElem?_eq_some_iff.1 hx).1
      have hEe := hE e (List.mem_of_getElem? he)
      have hadd : add .i64 (i : Int) 1 = ((i + 1 : Nat) : Int) := by rw [add64 (by omega) (by omega)]; omega
      obtain ⟨g3, hg3⟩ : ∃ g3, g3 = (g.new (.row [.int .i64 0, .int .i64 0] 92 true)).set g.nx (.row [iv x.1, iv x.2] 92 true) := ⟨_, rfl⟩
      have hb3 : g3.blk g.nx = some (.row [iv x.1, iv x.2] 92 true) := by rw [hg3]; exact blk_set_self _ _ _
      have x3 : Ext g g3 := by rw [hg3]; exact ((Ext.refl g).new' _).set (Nat.le_refl _) _
      have w2 : ∀ (K : H → Option (Ex × List Value × H)), (wrc 2 (g.new (.row [.int .i64 0, .int .i64 0] 92 true)) g.nx 0 (.agg #[iv x.1, iv x.2])).bind K = K g3 := fun K => by
        rw [hg3]
        unfold wrc
        rw [blk_new_self]
        rfl
      have e1 : ∀ (K : Value → Option (Ex × List Value × H)), (six v1 (i : Int) 2 fun b o => ld Tryd.prog g 92 b o K) = K (.agg #[iv x.1, iv x.2]) := fun K =>
        (hs1.ext xg).ldA ag92 sz92 (by omega) (x := [iv x.1, iv x.2]) (by rw [Int.toNat_natCast, List.getElem?_map, hx]; rfl) K
      have hs53 := hs5.ext (xg.trans x3)
      have hrd : g3.rd g.nx 0 2 = some [iv x.1, iv x.2] := rd_all hb3 rfl
      have start : f28_l1 rn 200 v1 v5 v6 v7 L.length [.bool false, iv 0, iv i] g = if mtE e x = true then
          (ld Tryd.prog g3 3 g.nx 0 fun v17 => asI .i64 v17 fun n15 => six v6 n15 1 fun b10 b11 => ld Tryd.prog g3 3 b10 b11 fun v18 => asI .i64 v18 fun n16 => ld Tryd.prog g3 3 g.nx (AM.off 0 1) fun v19 => asI .i64 v19 fun n17 =>
            nn n17 (six v6 n15 1 fun b12 b13 => st Tryd.prog g3 3 b12 b13 (.int .i64 (AM.or .i64 n16 (AM.shl .i64 1 n17))) fun h8 =>
              (ld Tryd.prog h8 3 g.nx (AM.off 0 1) fun v17 => asI .i64 v17 fun n15 => six v7 n15 1 fun b10 b11 => ld Tryd.prog h8 3 b10 b11 fun v18 => asI .i64 v18 fun n16 => ld Tryd.prog h8 3 g.nx 0 fun v19 => asI .i64 v19 fun n17 =>
                nn n17 (six v7 n15 1 fun b12 b13 => st Tryd.prog h8 3 b12 b13 (.int .i64 (AM.or .i64 n16 (AM.shl .i64 1 n17))) fun h9 => some (.normal, [.bool false, iv 0, iv ((i + 1 : Nat) : Int)], h9)))))
          else some (.ret, [.bool false, iv 0, iv i], g3) := by
        unfold f28_l1
        rw [show AM.gv [.bool false, iv 0, iv i] 2 = iv i from rfl, show AM.gv [.bool false, iv 0, iv i] 1 = iv 0 from rfl, show AM.gv [.bool false, iv 0, iv i] 0 = .bool false from rfl, asI_int, lt_t (by omega), ifB_true, asK_int]
        rw [e1, al_eq, w92, nx_eq, w2]
        simp only [nx_eq, d92, hrd, Option.bind_some, asK_int, getE0 hs53 he, getE1 hs53 he, asI_int, kbld92, hadd]
        rw [show ([iv x.1, iv x.2] : List Value).toArray = #[.int .i64 x.1, .int .i64 x.2] from rfl, keqv92, keqv92]
        unfold mtE
        cases h4 : (x.1 == (e.1 : Int) && x.2 == (e.2 : Int)) with
        | true =>
          rw [Bool.true_or, if_pos rfl, show (!true) = false from rfl, ifB_false]
          simp only [AM.out]
        | false =>
          rw [Bool.false_or, show (!false) = true from rfl, ifB_true]
          cases h5 : (x.1 == (e.2 : Int) && x.2 == (e.1 : Int)) with
          | true =>
            rw [if_pos rfl, show (!true) = false from rfl, ifB_false]
            simp only [AM.out]
          | false =>
            rw [if_neg (by simp), show (!false) = true from rfl, ifB_true]
            simp only [AM.out]
      rw [start]
      by_cases hmt : mtE e x = true
      · rw [if_pos hmt, if_pos hmt]
        obtain ⟨a, c, rfl, hac⟩ := mtE_nat hmt
        dsimp only at *
        have ha : a < A.length := by rcases hac with ⟨h1, h2⟩ | ⟨h1, h2⟩ <;> omega
        have hc : c < A.length := by rcases hac with ⟨h1, h2⟩ | ⟨h1, h2⟩ <;> omega
        have hq6 : g.nx ≠ b6 := by have := iA.lt; omega
        have hq7 : g.nx ≠ b7 := by have := iB.lt; omega
        have iA3 := iA.ext x3
        have iB3 := iB.ext x3
        rw [half gA ha hc iA3 (by rw [cell_of hb3]; rfl) (by rw [cell_of hb3]; rfl)]
        have iA4 := half_ia (a := a) (c := c) iA3
        generalize hg4 : g3.set b6 (.row (((addA A a c).map Int.ofNat).map iv) 3 true) = g4 at iA4
        have hb4 : g4.blk g.nx = some (.row [iv a, iv c] 92 true) := by rw [← hg4, blk_set_ne _ _ _ hq6]; exact hb3
        have iB4 : IA g4 b7 v7 (B.map Int.ofNat) := iB3.keep (by rw [← hg4]; exact Nat.le_refl _) (by rw [← hg4, blk_set_ne _ _ _ (fun e => hne e.symm)])
        have x4 : Ext h1 g4 := by rw [← hg4]; exact (xg.trans x3).set hb6 _
        rw [half gB (a := c) (c := a) (by omega) (by omega) iB4 (by rw [cell_of hb4]; rfl) (by rw [cell_of hb4]; rfl)]
        have iB5 := half_ia (a := c) (c := a) iB4
        refine ⟨_, _, _, rfl, rfl, rfl, x4.set hb7 _, iA4.keep (Nat.le_refl _) (blk_set_ne _ _ _ hne), iB5, gA.addA (by rw [Int.toNat_natCast]; omega), gB.addA (by rw [Int.toNat_natCast]; omega), by rw [addA_len]; exact lA, by rw [addA_len]; exact lB⟩
      · rw [if_neg hmt, if_neg hmt]
        exact ⟨_, _, _, rfl, by simp, rfl, rfl, rfl, xg.trans x3⟩)
  rw [itL_ok (p := fun (p : (Nat × Nat) × (Int × Int)) => mtE p.1 p.2) (g := fun p (s : List Nat × List Nat) => (addA s.1 p.2.1.toNat p.2.2.toNat, addA s.2 p.2.2.toNat p.2.1.toNat)), two_folds hlen] at hr
  refine ⟨e, w, h', hl, ?_⟩
  unfold okZ
  by_cases hok : ((E.zip L).all fun p => mtE p.1 p.2) = true
  · rw [if_pos hok] at hr ⊢
    obtain ⟨he, _, xg, a1, a2, a3, a4, _⟩ := hr
    exact ⟨xg, he, a1, a2, a3, a4⟩
  · rw [if_neg hok] at hr ⊢
    obtain ⟨_, he, a1, a2, xg⟩ := hr
    exact ⟨xg, he, a1, a2⟩

theorem fold_len (f : Int × Int → Nat × Nat) : ∀ (L : List (Int × Int)) (g : List Nat), (L.foldl (fun g x => addA g (f x).1 (f x).2) g).length = g.length := by
  intro L
  induction L with
  | nil => intro g; rfl
  | cons x L ih => intro g; rw [List.foldl_cons, ih, addA_len]

theorem ahead_len (n : Nat) (L : List (Int × Int)) : (aheadP n L).length = n := by
  have := fold_len (fun x => (x.1.toNat, x.2.toNat)) L (List.replicate n 0)
  simpa [aheadP] using this
theorem back_len (n : Nat) (L : List (Int × Int)) : (backP n L).length = n := by
  have := fold_len (fun x => (x.2.toNat, x.1.toNat)) L (List.replicate n 0)
  simpa [backP] using this

noncomputable def okC (g : List Nat) (L : List (Int × Int)) : Bool :=
  decide (L.length = (edgesP g).length) && okZ (edgesP g) L && decide (rch (aheadP g.length L) (allN g) 0 = allN g) && decide (rch (backP g.length L) (allN g) 0 = allN g)

theorem s28_bad {v v1 : Value} {l : List Int} {h : H} (hval : validG l = false) (hs : SlR h 3 1 v (cellsI l)) : rn 28 #[v, v1] h = some (.tuple #[.bool false, iv 2], h) := by
  have c63 := fun (K : Value → H → Option (Value × H)) => calls_eq (K := K) (xs := [v]) (s63 hs)
  rw [hval] at c63
  refine y28 (k := 0) ?_
  simp [f28, c63]

theorem eqN {a b : Nat} : AM.eq (a : Int) (b : Int) = decide (a = b) := by
  by_cases h : a = b <;> simp [h] <;> omega

theorem s28 {v v1 : Value} {g : List Nat} {L : List (Int × Int)} {h : H} (hg : GrN g) (hval : validG (g.map Int.ofNat) = true) (hs : SlR h 3 1 v (cellsN g)) (hs1 : SlR h 92 2 v1 (cellsQ L)) :
    rn 28 #[v, v1] h = some (.tuple #[.bool (okC g L), iv 0], h) := by
  have hlen := hg.len
  have hpos := hg.pos
  have c63 := fun (K : Value → H → Option (Value × H)) => calls_eq (K := K) (xs := [v]) (s63 (l := g.map Int.ofNat) (h := h) (by rw [cellsN_eq]; exact hs))
  rw [if_pos hval] at c63
  obtain ⟨ev, h1, e77, x1, hev⟩ := s77 hg.toGrB hs
  have hel := edges_len g hg.toGrB
  have c77 := fun (K : Value → H → Option (Value × H)) => calls_eq (K := K) (xs := [v]) e77
  have hn1 : ∀ {T : Type} (K : Int → Option T), len v1 K = K (L.length : Int) := fun K => by rw [hs1.len]; simp
  have hne : ∀ {T : Type} (K : Int → Option T), len ev K = K ((edgesP g).length : Int) := fun K => by rw [hev.slR.len]; simp
  have hnv : ∀ {T : Type} (K : Int → Option T), len v K = K (g.length : Int) := fun K => by rw [hs.len]; simp
  unfold okC
  by_cases hlL : L.length = (edgesP g).length
  · rw [decide_eq_true hlL, Bool.true_and]
    have i6 := ia_new (h := h1) (n := g.length) (by omega) (l := List.replicate g.length 0) (by simp)
    have i7 := ia_new (h := h1.new (.row ((List.replicate g.length 0).map iv) 3 true)) (n := g.length) (by omega) (l := List.replicate g.length 0) (by simp)
    have i6' := i6.ext (Ext.new _ (.row ((List.replicate g.length 0).map iv) 3 true))
    have hz : (List.replicate g.length 0).map Int.ofNat = List.replicate g.length 0 := by simp
    have jz : ∀ {h b v}, IA h b v (List.replicate g.length 0) → IA h b v ((List.replicate g.length 0).map Int.ofNat) := fun a => by rw [hz]; exact a
    obtain ⟨e, w, h2, hl, x2, hr⟩ := s28_loop (L := L) (n := g.length) (E := edgesP g) (v1 := v1) (v5 := ev) (h1 := h1) (fun e he => by obtain ⟨h1, h2, _⟩ := mem_edges.1 he; omega) hlen hlL hel
      (hs1.ext x1.toExt) hev.slR ((Ext.new _ _).trans (Ext.new _ _)) (Nat.le_refl _) (by rw [nx_new]; omega) (by rw [nx_new]; omega) (jz i6') (jz i7)
    have mk := fun (h : H) (K : Value → H → Option (Value × H)) => mks_ints (P := Tryd.prog) (t := 22) (e := 3) app22 zero3 (n := g.length) (by omega) (h := h) K
    have start : ∀ (r : Option (Value × H)), (onE e 0 (
        calls rn h2 65 [v] fun v29 h13 =>
        asI .i64 v29 fun n29 =>
        calls rn h13 78 [.slice (some ⟨h1.nx, 0, none⟩) g.length g.length, (.int .i64 0), (.int .i64 n29)] fun v30 h14 =>
        asI .i64 v30 fun n30 =>
        calls rn h14 65 [v] fun v31 h15 =>
        asI .i64 v31 fun n31 =>
        ifB (AM.eq n30 n31) (
          calls rn h15 65 [v] fun v32 h16 =>
          asI .i64 v32 fun n32 =>
          calls rn h16 78 [.slice (some ⟨h1.nx + 1, 0, none⟩) g.length g.length, (.int .i64 0), (.int .i64 n32)] fun v33 h17 =>
          asI .i64 v33 fun n33 =>
          calls rn h17 65 [v] fun v34 h18 =>
          asI .i64 v34 fun n34 =>
          some ((.tuple #[(.bool (AM.eq n33 n34)), (.int .i64 0)]), h18)) (
          some ((.tuple #[(.bool false), (.int .i64 0)]), h15))) (
        onR e (
          some ((.tuple #[AM.gv w 0, AM.gv w 1]), h2)))) = r → f28 rn 200 v v1 h = r := by
      intro r hr
      unfold f28
      rw [c63, ext20, ext21, asB_bool, show (!true) = false from rfl, ifB_false, c77, hn1, hne, eqN, decide_eq_true hlL, show (!true) = false from rfl, ifB_false, hnv, mk, hnv, mk, hn1]
      exact (lp_eq hl).trans hr
    have hsv := hs.ext (x1.toExt.trans x2)
    by_cases hok : okZ (edgesP g) L = true
    · rw [if_pos hok] at hr
      obtain ⟨rfl, a6, a7, gA, gB⟩ := hr
      have lA := ahead_len g.length L
      have lB := back_len g.length L
      generalize aheadP g.length L = A at *
      generalize backP g.length L = B at *
      have hW : allN g < 2 ^ A.length := by rw [lA]; exact allN_lt g
      have hW' : allN g < 2 ^ B.length := by rw [lB]; exact allN_lt g
      have c65 := fun (K : Value → H → Option (Value × H)) => calls_eq (K := K) (xs := [v]) (s65 hg.toGrB hsv)
      have c78 := fun (K : Value → H → Option (Value × H)) => calls_eq (K := K) (xs := [.slice (some ⟨h1.nx, 0, none⟩) g.length g.length, iv 0, iv (allN g : Nat)]) (s78 (v := 0) gA a6.slN (by omega) hW)
      have c78' := fun (K : Value → H → Option (Value × H)) => calls_eq (K := K) (xs := [.slice (some ⟨h1.nx + 1, 0, none⟩) g.length g.length, iv 0, iv (allN g : Nat)]) (s78 (v := 0) gB a7.slN (by omega) hW')
      rw [hok, Bool.true_and]
      refine p28 (k := 200) (h1 := h2) (start _ ?_) rfl (x1.toExt.trans x2)
      rw [onE_exit, if_pos rfl, c65, asI_int, c78, asI_int, c65, asI_int, eqN]
      by_cases h1 : rch A (allN g) 0 = allN g
      · rw [decide_eq_true h1, ifB_true, c65, asI_int, c78', asI_int, c65, asI_int, eqN, Bool.true_and]
      · rw [decide_eq_false h1, ifB_false, Bool.false_and]
    · rw [if_neg hok] at hr
      obtain ⟨rfl, hw, hw1⟩ := hr
      rw [Bool.eq_false_iff.2 hok, Bool.false_and, Bool.false_and]
      refine p28 (k := 200) (h1 := h2) (start _ ?_) rfl (x1.toExt.trans x2)
      rw [onE_ret, onR_ret, hw, hw1]
  · rw [decide_eq_false hlL, Bool.false_and, Bool.false_and, Bool.false_and]
    refine p28 (k := 0) (h1 := h1) ?_ rfl x1.toExt
    unfold f28
    rw [c63, ext20, ext21, asB_bool, show (!true) = false from rfl, ifB_false, c77, hn1, hne, eqN, decide_eq_false hlL, show (!false) = true from rfl, ifB_true]

end Go.AM
