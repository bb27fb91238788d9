/- Bridges: the program's and the document's. -/
import Derived.Test.YtakhklelgcfgjaaDoorEh
namespace Go.AM
open Go.Proofs

variable {R : Type}

attribute [local simp] nx_eq nx_new nx_set blk_new blk_set asI_int asK_int asB_bool asP_ptr al_eq bx_eq len_slice onE_exit onE_ret onR_ret Value.cells d3 d22 d23 d32 d78 w3 w32 cell_new cell_set rd_new rd_set off eq lt le ifB gv out ext20 ext21

/-! ### Two numbers of a row that is owned are turned -/

theorem nb_get {g : List Nat} {i : Nat} (hi : i < g.length) : (g.map Int.ofNat)[i]? = some ((nb g i : Nat) : Int) := by
  unfold nb
  rw [List.getElem?_map, List.getD_eq_getElem?_getD, List.getElem?_eq_getElem hi]
  rfl

theorem set_nat {g : List Nat} {i x : Nat} : (g.map Int.ofNat).set i (x : Int) = (g.set i x).map Int.ofNat := by
  rw [List.map_set]; rfl

theorem nb_eq {g : List Nat} {i : Nat} {x : Int} (h : (g.map Int.ofNat)[i]? = some x) : x = ((nb g i : Nat) : Int) := by
  have hi : i < g.length := by have := (List.getElem?_eq_some_iff.1 h).1; simpa using this
  rw [nb_get hi] at h
  exact (Option.some.inj h).symm

/-- The two stores that take an edge away. -/
theorem del_stores {h : H} {bb : Nat} {sv : Value} {g : List Nat} {a b : Nat} (hg : GrB g) (ha : a < g.length) (hb : b < g.length) (hab : a ≠ b) (hia : IA h bb sv (g.map Int.ofNat)) :
    ∃ h', (∀ {T : Type} (K : H → Option T), (six sv (a : Int) 1 fun b0 b1 => (h.cell b0 b1).bind fun v3 => asI .i64 v3 fun n2 => nn (b : Int) (six sv (a : Int) 1 fun b2 b3 =>
        (wrc 1 h b2 b3 (.int .i64 (andNot .i64 n2 (shl .i64 1 b)))).bind fun h3 => six sv (b : Int) 1 fun b4 b5 => (h3.cell b4 b5).bind fun v4 => asI .i64 v4 fun n3 => nn (a : Int) (six sv (b : Int) 1 fun b6 b7 =>
          (wrc 1 h3 b6 b7 (.int .i64 (andNot .i64 n3 (shl .i64 1 a)))).bind K))) = K h') ∧
      IA h' bb sv ((delE g a b).map Int.ofNat) ∧ h'.nx = h.nx ∧ ∀ q, q ≠ bb → h'.blk q = h.blk q := by
  have h1 := hia.set a ((without (nb g a) (2 ^ b) : Nat) : Int)
  rw [set_nat] at h1
  have hnb : nb (g.set a (without (nb g a) (2 ^ b))) b = nb g b := by rw [nb_set ha, if_neg (fun e => hab e.symm)]
  have h2 := h1.set b ((without (nb g b) (2 ^ a) : Nat) : Int)
  rw [set_nat] at h2
  refine ⟨_, fun K => ?_, h2, rfl, fun q hq => ?_⟩
  · rw [hia.get (by omega) (x := (nb g a : Nat)) (by rw [Int.toNat_natCast]; exact nb_get ha), asI_int, nn_ge (by omega), hia.put (by omega) (by simpa using ha), del1_calc hg hb]
    simp only [Int.toNat_natCast]
    rw [hia.wrc (i := a) (by simpa using ha), set_nat, Option.bind_some,
      h1.get (by omega) (x := (nb g b : Nat)) (by rw [Int.toNat_natCast, nb_get (by simpa using hb), hnb]), asI_int, nn_ge (by omega), h1.put (by omega) (by simpa using hb), del1_calc hg ha]
    simp only [Int.toNat_natCast]
    rw [h1.wrc (i := b) (by simpa using hb), set_nat, Option.bind_some]
  · rw [blk_set_ne _ _ _ hq, blk_set_ne _ _ _ hq]

theorem IA.slN {h : H} {bb : Nat} {sv : Value} {g : List Nat} (hia : IA h bb sv (g.map Int.ofNat)) : SlR h 3 1 sv (cellsN g) := by
  have := hia.slR
  rwa [show ((g.map Int.ofNat).map fun z => [iv z]) = cellsN g from cellsN_eq g] at this

/-- The document's graph without an edge. -/
theorem s73 {tv : Value} {g : List Nat} {a b : Nat} {h : H} (hg : GrB g) (ha : a < g.length) (hb : b < g.length) (hab : a ≠ b) (hs : SlR h 3 1 tv (cellsN g)) :
    ∃ v' h', rn 73 #[tv, iv a, iv b] h = some (v', h') ∧ Exw h h' ∧ SlR h' 3 1 v' (cellsN (delE g a b)) := by
  have hlen := hg.len
  obtain ⟨v1, h1, bb, e1, x1, hbb, hia, _⟩ := copy_ia (P := Tryd.prog) (t := 23) (g := g) app23 bls23e hs (by rintro rfl; simp at ha) (by omega)
  obtain ⟨h2, e2, hia2, n2, k2⟩ := del_stores hg ha hb hab hia
  have x2 : Ext h h2 := ⟨by have := x1.nx; omega, fun q hq => by rw [k2 q (by omega)]; exact x1.blk q hq⟩
  obtain ⟨h3, e3, m3, w3'⟩ := x73 (k := 0) (v0 := tv) (n0 := a) (n1 := b) (h := h) (h1 := h2) (v := v1) (by
    unfold f73
    rw [e1]
    simp only [d3, w3]
    exact e2 _) (by obtain ⟨c, hc, _⟩ := hia.val; rw [hc]; rfl)
  exact ⟨v1, h3, e3, w3' x2, hia2.slN.ext m3.ext⟩

theorem s85 {P : Prop} {tv : Value} {g : List Nat} {h : H} (hg : GrB g) (h0 : g ≠ []) (hs : SlR h 3 1 tv (cellsN g)) (k : ∀ v' h' bb, rn 85 #[tv] h = some (v', h') → Exw h h' → h.nx ≤ bb → IA h' bb v' (g.map Int.ofNat) → P) : P := by
  have hlen := hg.len
  obtain ⟨v1, h1, bb, e1, x1, hbb, hia, _⟩ := copy_ia (P := Tryd.prog) (t := 78) (g := g) app78 bls78e hs h0 (by omega)
  obtain ⟨h3, e3, m3, w3'⟩ := x85 (k := 0) (v0 := tv) (h := h) (h1 := h1) (v := v1) (by
    unfold f85 eqv
    have hne : cellsN g ≠ [] := by simpa using h0
    generalize cellsN g = L at hs hne
    cases hs with
    | nil => exact absurd rfl hne
    | @at_ b o c cs own l hb hr hk hc hl hx =>
      rw [some78]
      simp only [ifB_false]
      exact e1 _) (by obtain ⟨c, hc, _⟩ := hia.val; rw [hc]; rfl)
  exact k v1 h3 bb e3 (w3' x1) hbb (hia.ext m3.ext)

/-- The program's town without an edge. -/
theorem s87 {tv : Value} {g : List Nat} {a b : Nat} {h : H} (hg : GrB g) (ha : a < g.length) (hb : b < g.length) (hab : a ≠ b) (hs : SlR h 3 1 tv (cellsN g)) :
    ∃ v' h', rn 87 #[tv, .agg #[iv a, iv b]] h = some (v', h') ∧ Exw h h' ∧ ∃ bb, h.nx ≤ bb ∧ IA h' bb v' ((delE g a b).map Int.ofNat) := by
  have hlen := hg.len
  have xb := Ext.new h (.row [iv a, iv b] 32 true)
  refine s85 hg (by rintro rfl; simp at ha) (hs.ext xb) fun v1 h1 bb e1 x1 hbb hia => ?_
  obtain ⟨h2, e2, hia2, n2, k2⟩ := del_stores hg ha hb hab hia
  rw [nx_new] at hbb
  have hq1 : h1.blk h.nx = some (.row [iv a, iv b] 32 true) := (x1.blk _ (by rw [nx_new]; omega)).trans (blk_new_self _ _)
  have x2 : Ext h h2 := ⟨by have := x1.nx; have := xb.nx; omega, fun q hq => by rw [k2 q (by omega)]; exact (xb.trans x1.toExt).blk q hq⟩
  have c85 := fun (K : Value → H → Option (Value × H)) => calls_eq (K := K) (xs := [tv]) e1
  obtain ⟨h3, e3, m3, w3'⟩ := x87 (k := 0) (v0 := tv) (v1 := .agg #[iv a, iv b]) (h := h) (h1 := h2) (v := v1) (by
    have := e2 (fun h4 => some (v1, h4))
    have h1' := hia.set a ((without (nb g a) (2 ^ b) : Nat) : Int)
    unfold f87
    rw [bx_eq, show (Value.agg #[iv (a : Int), iv (b : Int)]).cells.toList = [iv (a : Int), iv (b : Int)] from rfl, c85]
    rw [hia.get (by omega) (x := (nb g a : Nat)) (by rw [Int.toNat_natCast]; exact nb_get ha), asI_int, nn_ge (by omega), hia.put (by omega) (by simpa using ha), del1_calc hg hb] at this
    simp only [Int.toNat_natCast] at this
    rw [hia.wrc (i := a) (by simpa using ha), Option.bind_some] at this
    simp only [aix_in (show (0 : Int) ≤ 0 by omega) (show (0 : Int) < ((2 : Nat) : Int) by omega), aix_in (show (0 : Int) ≤ 1 by omega) (show (1 : Int) < ((2 : Nat) : Int) by omega), nx_eq, d3, at_, cell_of hq1]
    rw [show ([iv (a : Int), iv (b : Int)] : List Value)[0 + (0 : Int).toNat * 1]? = some (iv a) from rfl, Option.bind_some, asI_int,
      hia.get (by omega) (x := (nb g a : Nat)) (by rw [Int.toNat_natCast]; exact nb_get ha), asI_int]
    rw [show ([iv (a : Int), iv (b : Int)] : List Value)[0 + (1 : Int).toNat * 1]? = some (iv b) from rfl, Option.bind_some, asI_int, nn_ge (by omega),
      hia.put (by omega) (by simpa using ha), w3, del1_calc hg hb]
    simp only [Int.toNat_natCast]
    rw [hia.wrc (i := a) (by simpa using ha), Option.bind_some, cell_set, if_neg (by omega), cell_of hq1]
    rw [show ([iv (a : Int), iv (b : Int)] : List Value)[0 + (1 : Int).toNat * 1]? = some (iv b) from rfl, Option.bind_some, asI_int]
    rw [show (h1.set bb (.row (((g.map Int.ofNat).set a ((without (nb g a) (2 ^ b) : Nat) : Int)).map iv) 3 true)).cell h.nx (0 + (0 : Int).toNat * 1) = some (iv (a : Int)) by rw [cell_set, if_neg (by omega), cell_of hq1]; rfl]
    simp only [Option.bind_some, asI_int, w3]
    exact this) (by obtain ⟨c, hc, _⟩ := hia.val; rw [hc]; rfl)
  exact ⟨v1, h3, e3, w3' x2, bb, by omega, hia2.ext m3.ext⟩

/-! ### Bridges -/

/-- Does a way lead from one end of an edge to the other one without it? -/
noncomputable def roundQ (g : List Nat) (a b : Nat) : Bool := (rch (delE g a b) (allN g) a).testBit b
noncomputable def bridgesP (g : List Nat) : List (Nat × Nat) := (edgesP g).filter fun e => !roundQ g e.1 e.2

theorem allN_delE (g : List Nat) (a b : Nat) : allN (delE g a b) = allN g := by unfold allN; rw [delE_len]

/-- Edges lead from a number to a greater one. -/
theorem mem_edges {g : List Nat} {e : Nat × Nat} : e ∈ edgesP g ↔ e.1 < e.2 ∧ e.2 < g.length ∧ adj g e.1 e.2 = true := by
  have key : ∀ (l : List Nat) (i : Nat) (s : List (Nat × Nat)), e ∈ foldI (fun _ a acc => edgeRow g a acc) l i s ↔ e ∈ s ∨ (e.1 ∈ l ∧ e.1 < e.2 ∧ e.2 < g.length ∧ adj g e.1 e.2 = true) := by
    intro l
    induction l with
    | nil => intro i s; simp [foldI]
    | cons a l ih =>
      intro i s
      simp only [foldI]
      rw [ih, edgeRow_eq, List.mem_append, List.mem_map]
      constructor
      · rintro ((h | ⟨j, hj, rfl⟩) | h)
        · exact .inl h
        · rw [List.mem_filter, List.mem_range] at hj
          exact .inr ⟨List.mem_cons_self, by simp only; omega, by simp only; omega, hj.2⟩
        · exact .inr ⟨List.mem_cons_of_mem _ h.1, h.2⟩
      · rintro (h | ⟨h1, h2, h3, h4⟩)
        · exact .inl (.inl h)
        · rcases List.mem_cons.1 h1 with h5 | h5
          · refine .inl (.inr ⟨e.2 - a - 1, ?_, Prod.ext h5.symm (by simp only; omega)⟩)
            rw [List.mem_filter, List.mem_range]
            refine ⟨by omega, ?_⟩
            rw [show a + 1 + (e.2 - a - 1) = e.2 by omega, ← h5]
            exact h4
          · exact .inr ⟨h5, h2, h3, h4⟩
  unfold edgesP
  rw [key]
  constructor
  · rintro (h | h)
    · simp at h
    · exact h.2
  · intro h
    exact .inr ⟨List.mem_range.2 (by omega), h⟩

theorem edges_len (g : List Nat) (hg : GrB g) : (edgesP g).length ≤ 100 := by
  have hlen := hg.len
  have key : ∀ (l : List Nat) (i : Nat) (s : List (Nat × Nat)), (foldI (fun _ a acc => edgeRow g a acc) l i s).length ≤ s.length + 10 * l.length := by
    intro l
    induction l with
    | nil => intro i s; simp [foldI]
    | cons a l ih =>
      intro i s
      simp only [foldI, List.length_cons]
      have h1 := ih (i + 1) (edgeRow g a s)
      have h2 := edgeRow_len (g := g) (a := a) (acc := s)
      omega
  have := key (List.range g.length) 0 []
  unfold edgesP
  simp at this
  omega

theorem round_bit {g : List Nat} {a b : Nat} (hb : b < 11) : AM.and .i64 (shr .i64 (rch (delE g a b) (allN g) a : Int) (b : Int)) 1 = if roundQ g a b then 1 else 0 := by
  have := rch_lt (delE g a b) (allN g) a
  exact bit_nat (by omega) (by omega)

/-- The document's test. -/
theorem s72 {tv : Value} {g : List Nat} {a b : Nat} {h : H} (hg : GrB g) (ha : a < g.length) (hb : b < g.length) (hs : SlR h 3 1 tv (cellsN (delE g a b))) : rn 72 #[tv, iv (allN g : Nat), iv a, iv b] h = some (.bool (roundQ g a b), h) := by
  have hlen := hg.len
  have c33 := fun (K : Value → H → Option (Value × H)) => calls_eq (K := K) (xs := [tv, iv (allN g : Nat), iv a]) (s33 (hg.delE a b) hs (by rw [delE_len]; exact ha) (by rw [delE_len]; exact allN_lt g))
  have hbit := round_bit (g := g) (a := a) (b := b) (by omega)
  refine p72 (k := 0) (h1 := h) ?_ rfl (.refl _)
  unfold f72
  rw [c33, asI_int, nn_ge (by omega), hbit]
  cases roundQ g a b <;> rfl

set_option maxHeartbeats 1000000 in
/-- The document's bridges. -/
theorem s25 {tv : Value} {g : List Nat} {h : H} (hg : GrB g) (hs : SlR h 3 1 tv (cellsN g)) :
    ∃ v' h', rn 25 #[tv] h = some (v', h') ∧ Exw h h' ∧ SlR h' 32 2 v' (cellsP (bridgesP g)) := by
  have hlen := hg.len
  obtain ⟨ev, h1, e71, x1, hev⟩ := s71 hg hs
  have hel := edges_len g hg
  have hn : ∀ {T : Type} (K : Int → Option T), len ev K = K ((edgesP g).length : Int) := fun K => by rw [hev.len]; simp
  obtain ⟨ws', h', hl, xg, hll, sv', hap', rfl⟩ := lp_for (F := f25_l1 rn 200 tv ev (edgesP g).length) (k := 200) (l := edgesP g) (fun _ e acc => if (!roundQ g e.1 e.2) = true then acc ++ [e] else acc)
    (fun i acc' ws h' => Ext h1 h' ∧ acc'.length ≤ i ∧ ∃ sv, AqR h1.nx h' 32 2 sv (cellsP acc') ∧ ws = [sv, iv i]) 0 (ws := [.slice none 0 0, iv 0]) (h := h1) (s0 := [])
    ⟨.refl _, by simp, _, .nil, rfl⟩ (by omega)
    (by
      rintro acc' ws h' ⟨_, _, sv, _, rfl⟩
      simp [f25_l1])
    (by
      rintro i e acc' ws h2 hx ⟨x2, hal, sv, hap1, rfl⟩
      have hi := (List.getElem?_eq_some_iff.1 hx).1
      obtain ⟨hlt1, hlt2, hadj⟩ := mem_edges.1 (List.mem_of_getElem? hx)
      have hadd : add .i64 (i : Int) 1 = (i : Int) + 1 := add64 (by omega) (by omega)
      have hs2 := hs.ext (x1.toExt.trans x2)
      let h4 := (h2.new (.row [iv e.1, iv e.2] 32 true))
      obtain ⟨h3, hh3⟩ : ∃ h3, h3 = (h2.new (.row [.int .i64 0, .int .i64 0] 32 true)).set h2.nx (.row [iv e.1, iv e.2] 32 true) := ⟨_, rfl⟩
      have hb3 : h3.blk h2.nx = some (.row [iv e.1, iv e.2] 32 true) := by rw [hh3]; exact blk_set_self _ _ _
      have hn3 : h3.nx = h2.nx + 1 := by rw [hh3]; rfl
      have x3 : Ext h2 h3 := by rw [hh3]; exact ((Ext.refl h2).new' _).set (Nat.le_refl _) _
      obtain ⟨wv, h5, e73, x5, hwv⟩ := s73 (a := e.1) (b := e.2) hg (by omega) hlt2 (by omega) (hs2.ext x3)
      have c73 := fun (K : Value → H → Option (Ex × List Value × H)) => calls_eq (K := K) (xs := [tv, iv e.1, iv e.2]) e73
      have c68 := fun (K : Value → H → Option (Ex × List Value × H)) => calls_eq (K := K) (xs := [tv]) (s68 hg ((hs2.ext x3).ext x5.toExt))
      have c72 := fun (K : Value → H → Option (Ex × List Value × H)) => calls_eq (K := K) (xs := [wv, iv (allN g : Nat), iv e.1, iv e.2]) (s72 hg (by omega) hlt2 hwv)
      have hb5 : h5.blk h2.nx = some (.row [iv e.1, iv e.2] 32 true) := (x5.blk _ (by omega)).trans hb3
      have hsame : same h5 h3 = true := by simp [same, x5.wr]
      have hlt5 : h2.nx < h5.nx := by have := x5.nx; omega
      have e1 : ∀ (K : Value → Option (Ex × List Value × H)), (six ev (i : Int) 2 fun b o => ld Tryd.prog h2 32 b o K) = K (.agg #[iv e.1, iv e.2]) := fun K =>
        (hev.ext x2).ldA ag32 sz32 (by omega) (x := [iv e.1, iv e.2]) (by simp [hx]) K
      have w2 : ∀ (K : H → Option (Ex × List Value × H)), (wrc 2 (h2.new (.row [.int .i64 0, .int .i64 0] 32 true)) h2.nx 0 (.agg #[iv e.1, iv e.2])).bind K = K h3 := fun K => by
        rw [hh3]
        unfold wrc
        rw [blk_new_self]
        rfl
      have start : f25_l1 rn 200 tv ev (edgesP g).length [sv, iv i] h2 = if (!roundQ g e.1 e.2) = true then
          (bls Tryd.prog h5 24 1 [(0, .agg #[iv e.1, iv e.2])] fun v11 h8 => app Tryd.prog h8 24 24 sv v11 fun v12 h9 => AM.out .normal [v12, iv ((i : Int) + 1)] h9) else
          some (.normal, [sv, iv ((i : Int) + 1)], h5) := by
        unfold f25_l1
        rw [show AM.gv [sv, iv i] 1 = iv i from rfl, show AM.gv [sv, iv i] 0 = sv from rfl, asI_int, lt_t (by omega), ifB_true, asK_int]
        rw [e1, al_eq, w32, nx_eq, w2]
        simp only [aix_in (show (0 : Int) ≤ 0 by omega) (show (0 : Int) < ((2 : Nat) : Int) by omega), aix_in (show (0 : Int) ≤ 1 by omega) (show (1 : Int) < ((2 : Nat) : Int) by omega), nx_eq, d3, at_, cell_of hb3, cell_of hb5]
        rw [show ([iv (e.1 : Int), iv (e.2 : Int)] : List Value)[0 + (0 : Int).toNat * 1]? = some (iv e.1) from rfl, show ([iv (e.1 : Int), iv (e.2 : Int)] : List Value)[0 + (1 : Int).toNat * 1]? = some (iv e.2) from rfl]
        simp only [Option.bind_some, asI_int, c73, c68, cell_of hb5]
        rw [show ([iv (e.1 : Int), iv (e.2 : Int)] : List Value)[0 + (0 : Int).toNat * 1]? = some (iv e.1) from rfl, show ([iv (e.1 : Int), iv (e.2 : Int)] : List Value)[0 + (1 : Int).toNat * 1]? = some (iv e.2) from rfl]
        simp only [Option.bind_some, asI_int, freq, same_self, hsame, decide_eq_true hlt5, decide_eq_true (show h2.nx < h3.nx by omega), Bool.and_self, ck_true, c72, asB_bool, d32, show h5.rd h2.nx 0 2 = some [iv (e.1 : Int), iv (e.2 : Int)] from rd_all hb5 rfl, hadd]
        cases roundQ g e.1 e.2 with
        | true => simp
        | false => simp
      rw [start]
      by_cases hp : (!roundQ g e.1 e.2) = true
      · rw [if_pos hp, if_pos hp]
        have x25 := x3.trans x5.toExt
        obtain ⟨sv', h6, e2, a2, n2, k2, b2, hb2, hb2'⟩ := (hap1.ext x25).push app24 app24 (bls24 (e.1 : Int) (e.2 : Int)) rfl rfl (by rw [List.length_map]; omega) (x2.trans x25).nx
        rw [e2]
        refine ⟨_, _, rfl, ⟨by have := (x2.trans x25).nx; omega, fun b hb => ?_⟩, by simp; omega, sv', ?_, rfl⟩
        · rw [k2 b (by have := (x2.trans x25).nx; omega) (fun e => by have := ((hap1.ext x25).blkOf e).1; omega)]
          exact (x2.trans x25).blk b hb
        · have : cellsP (acc' ++ [e]) = cellsP acc' ++ [[iv (e.1 : Int), iv (e.2 : Int)]] := by simp
          rw [this]; exact a2
      · rw [if_neg hp, if_neg hp]
        have x25 := x3.trans x5.toExt
        exact ⟨_, _, rfl, x2.trans x25, by omega, sv, hap1.ext x25, rfl⟩)
  have hfil : foldI (fun _ e acc => if (!roundQ g e.1 e.2) = true then acc ++ [e] else acc) (edgesP g) 0 [] = bridgesP g := by
    have := foldI_filter (p := fun (e : Nat × Nat) => !roundQ g e.1 e.2) (f := fun e => e) (edgesP g) 0 []
    rw [List.map_id', List.nil_append] at this
    exact this
  rw [hfil] at hap'
  obtain ⟨h2, e2, m2, w2⟩ := x25 (k := 200) (v0 := tv) (h := h) (h1 := h') (v := sv') (by
    unfold f25
    rw [calls_eq (xs := [tv]) e71, hn]
    refine (lp_eq hl).trans ?_
    rfl) (by obtain ⟨x, y, z, hz⟩ := hap'.isSl; rw [hz]; rfl)
  exact ⟨sv', h2, e2, w2 (x1.toExt.trans xg), hap'.slR.ext m2.ext⟩

end Go.AM
