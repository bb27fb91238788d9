/- The walk of the search. -/
import Derived.Test.YtakhklelgcfgjaaDoorEz
import Derived.Test.YtakhklelgcfgjaaDoorAmMap
namespace Go.AM
open Go.Proofs

variable {R : Type}

attribute [local simp] nx_eq nx_new nx_set blk_new blk_set asI_int asK_int asB_bool asP_ptr al_eq bx_eq len_slice onE_exit onE_ret onR_ret Value.cells cell_new cell_set rd_new rd_set off eq lt le ifB gv out ext20 ext21

theorem under87 : Tryd.prog.underlying 87 = some (.map 3 3) := by kernel_rfl
theorem zero3' : zero? Tryd.prog 3 = some (iv 0) := by kernel_rfl
theorem under3i : Tryd.prog.underlying 3 = some (.int .i64) := by kernel_rfl

/-- What the two maps hold. -/
def kvN (T : TL) : List (Int × Value) := T.zipIdx.map fun x => ((x.1.1 : Int), iv (x.2 : Int))
def kvP (T : TL) : List (Int × Value) := T.map fun x => ((x.1 : Int), iv x.2)

theorem kvN_snoc (T : TL) (u : Nat) (p : Int) : kvN (T ++ [(u, p)]) = kvN T ++ [((u : Int), iv (T.length : Int))] := by
  unfold kvN
  rw [List.zipIdx_append, List.map_append]
  simp
theorem kvP_snoc (T : TL) (u : Nat) (p : Int) : kvP (T ++ [(u, p)]) = kvP T ++ [((u : Int), iv p)] := by
  unfold kvP
  rw [List.map_append]; rfl

theorem kvN_key {T : TL} {k : Nat} : (∀ p ∈ kvN T, p.1 ≠ (k : Int)) ↔ k ∉ nodesT T := by
  unfold kvN nodesT
  constructor
  · intro h hm
    obtain ⟨x, hx, rfl⟩ := List.mem_map.1 hm
    obtain ⟨i, hi, rfl⟩ := List.getElem_of_mem hx
    exact h (((T[i].1 : Nat) : Int), iv (i : Int)) (List.mem_map.2 ⟨(T[i], i), List.mem_of_getElem? (i := i) (by simp [List.getElem?_zipIdx, hi]), rfl⟩) rfl
  · rintro hm p hp he
    obtain ⟨⟨x, i⟩, hx, rfl⟩ := List.mem_map.1 hp
    refine hm (List.mem_map.2 ⟨x, ?_, Int.natCast_inj.1 he⟩)
    exact (List.mem_zipIdx' hx).2 ▸ List.getElem_mem _

theorem kvP_key {T : TL} {k : Nat} : (∀ p ∈ kvP T, p.1 ≠ (k : Int)) ↔ k ∉ nodesT T := by
  unfold kvP nodesT
  constructor
  · intro h hm
    obtain ⟨x, hx, rfl⟩ := List.mem_map.1 hm
    exact h ((x.1 : Int), iv x.2) (List.mem_map.2 ⟨x, hx, rfl⟩) rfl
  · rintro hm p hp he
    obtain ⟨x, hx, rfl⟩ := List.mem_map.1 hp
    exact hm (List.mem_map.2 ⟨x, hx, Int.natCast_inj.1 he⟩)

abbrev visF (bt bn bp bv : Nat) : Value := .func (.func 75) #[] #[pt bt 0, pt bn 0, pt bp 0, pt bv 0]

/-- How the search's state lies on the heap. -/
structure HT (g : List Nat) (T : TL) (bt bn bp bv mn mp : Nat) (tv : Value) (h : H) : Prop where
  t : h.blk bt = some (.row [tv] 78 true)
  n : h.blk bn = some (.row [.map (some mn)] 87 true)
  p : h.blk bp = some (.row [.map (some mp)] 87 true)
  v : h.blk bv = some (.row [visF bt bn bp bv] 88 true)
  s : SlR h 3 1 tv (cellsN g)
  hn : ∃ es c, h.blk mn = some (.mp es c) ∧ KvI (kvN T) es
  hp : ∃ es c, h.blk mp = some (.mp es c) ∧ KvI (kvP T) es
  ne : mn ≠ mp
  lt : mn < h.nx
  lp : mp < h.nx
  cl : bt < h.nx ∧ bn < h.nx ∧ bp < h.nx ∧ bv < h.nx

/-- Only the two maps have changed. -/
structure Fm (mn mp : Nat) (h h' : H) : Prop where
  nx : h.nx ≤ h'.nx
  blk : ∀ b, b < h.nx → b ≠ mn → b ≠ mp → h'.blk b = h.blk b

theorem Fm.refl (mn mp : Nat) (h : H) : Fm mn mp h h := ⟨Nat.le_refl _, fun _ _ _ _ => rfl⟩
theorem Fm.trans {mn mp : Nat} {a b c : H} (x : Fm mn mp a b) (y : Fm mn mp b c) : Fm mn mp a c := ⟨Nat.le_trans x.nx y.nx, fun q h1 h2 h3 => (y.blk q (Nat.lt_of_lt_of_le h1 x.nx) h2 h3).trans (x.blk q h1 h2 h3)⟩
theorem Fm.ext {mn mp : Nat} {a b : H} (x : Ext a b) : Fm mn mp a b := ⟨x.nx, fun q h1 _ _ => x.blk q h1⟩

theorem HT.sl {g : List Nat} {T : TL} {bt bn bp bv mn mp : Nat} {tv : Value} {h h' : H} (a : HT g T bt bn bp bv mn mp tv h) (f : Fm mn mp h h') {e : TypeId} {s : Nat} {v : Value} {l : List (List Value)} (hs : SlR h e s v l) : SlR h' e s v l := by
  refine hs.keepB f.nx fun b hb => ?_
  obtain ⟨h1, cs, own, h2⟩ := hs.blkR hb
  obtain ⟨es, c, h3, _⟩ := a.hn
  obtain ⟨es', c', h4, _⟩ := a.hp
  refine f.blk b h1 ?_ ?_ <;> rintro rfl
  · rw [h3] at h2; cases h2
  · rw [h4] at h2; cases h2

theorem HT.row {g : List Nat} {T : TL} {bt bn bp bv mn mp : Nat} {tv : Value} {h h' : H} (a : HT g T bt bn bp bv mn mp tv h) (f : Fm mn mp h h') {b : Nat} {cs : List Value} {e : TypeId} {o : Bool} (hb : h.blk b = some (.row cs e o)) (hlt : b < h.nx) : h'.blk b = some (.row cs e o) := by
  rw [f.blk b hlt ?_ ?_, hb]
  · rintro rfl
    obtain ⟨es, c, h3, _⟩ := a.hn
    rw [h3] at hb; cases hb
  · rintro rfl
    obtain ⟨es, c, h3, _⟩ := a.hp
    rw [h3] at hb; cases hb

section
variable {g : List Nat} {T : TL} {bt bn bp bv mn mp : Nat} {tv : Value} {h h' : H}

theorem HT.ext (a : HT g T bt bn bp bv mn mp tv h) (x : Ext h h') : HT g T bt bn bp bv mn mp tv h' := by
  obtain ⟨c1, c2, c3, c4⟩ := a.cl
  have hx := x.nx
  obtain ⟨es, c, h3, h5⟩ := a.hn
  obtain ⟨es', c', h4, h6⟩ := a.hp
  exact ⟨(x.blk _ c1).trans a.t, (x.blk _ c2).trans a.n, (x.blk _ c3).trans a.p, (x.blk _ c4).trans a.v, a.s.ext x, ⟨es, c, (x.blk _ a.lt).trans h3, h5⟩, ⟨es', c', (x.blk _ a.lp).trans h4, h6⟩, a.ne, Nat.lt_of_lt_of_le a.lt hx, Nat.lt_of_lt_of_le a.lp hx,
    Nat.lt_of_lt_of_le c1 hx, Nat.lt_of_lt_of_le c2 hx, Nat.lt_of_lt_of_le c3 hx, Nat.lt_of_lt_of_le c4 hx⟩

/-- Only what is below the old end counts. -/
theorem HT.trunc {T' : TL} {h1 h2 : H} (a : HT g T bt bn bp bv mn mp tv h1) (f : Fm mn mp h h1) (hn : mn < h.nx) (hp : mp < h.nx) (hc : bt < h.nx ∧ bn < h.nx ∧ bp < h.nx ∧ bv < h.nx) (hs : SlR h 3 1 tv (cellsN g)) (h0 : HT g T' bt bn bp bv mn mp tv h)
    (hx : h.nx ≤ h2.nx) (hk : ∀ b, b < h.nx → h2.blk b = h1.blk b) : HT g T bt bn bp bv mn mp tv h2 ∧ Fm mn mp h h2 := by
  obtain ⟨c1, c2, c3, c4⟩ := hc
  obtain ⟨es, c, h3, h5⟩ := a.hn
  obtain ⟨es', c', h4, h6⟩ := a.hp
  have f2 : Fm mn mp h h2 := ⟨hx, fun b hb q1 q2 => (hk b hb).trans (f.blk b hb q1 q2)⟩
  exact ⟨⟨(hk _ c1).trans a.t, (hk _ c2).trans a.n, (hk _ c3).trans a.p, (hk _ c4).trans a.v, h0.sl f2 hs, ⟨es, c, (hk _ hn).trans h3, h5⟩, ⟨es', c', (hk _ hp).trans h4, h6⟩, a.ne, Nat.lt_of_lt_of_le hn hx, Nat.lt_of_lt_of_le hp hx,
    Nat.lt_of_lt_of_le c1 hx, Nat.lt_of_lt_of_le c2 hx, Nat.lt_of_lt_of_le c3 hx, Nat.lt_of_lt_of_le c4 hx⟩, f2⟩

theorem HT.cellNe (a : HT g T bt bn bp bv mn mp tv h) : bn ≠ mn ∧ bp ≠ mn ∧ bv ≠ mn ∧ bv ≠ mp := by
  obtain ⟨es, c, h3, h5⟩ := a.hn
  obtain ⟨es', c', h4, h6⟩ := a.hp
  have h1 := a.n
  have h2 := a.v
  have h0 := a.p
  refine ⟨?_, ?_, ?_, ?_⟩ <;> rintro rfl
  · rw [h1] at h3; cases h3
  · rw [h0] at h3; cases h3
  · rw [h2] at h3; cases h3
  · rw [h2] at h4; cases h4

/-- A node is entered in both maps. -/
theorem HT.enter (a : HT g T bt bn bp bv mn mp tv h) {u v : Nat} (hu : u ∉ nodesT T) : ∃ h4, (∀ (K : H → Option R),
    (mlen h (.map (some mn)) fun n7 => mup Tryd.prog h 87 (.map (some mn)) (.int .i64 (u : Int)) (.int .i64 n7) fun h3 => ck (frew bp (.map (some mn)) (nx h)) (mup Tryd.prog h3 87 (.map (some mp)) (.int .i64 (u : Int)) (.int .i64 (v : Int)) K)) = K h4) ∧
    HT g (T ++ [(u, (v : Int))]) bt bn bp bv mn mp tv h4 ∧ Fm mn mp h h4 := by
  obtain ⟨es, c, h3, h5⟩ := a.hn
  obtain ⟨es', c', h4, h6⟩ := a.hp
  obtain ⟨n1, n2, n3, n4⟩ := a.cellNe
  have hl : es.length = T.length := by have := congrArg List.length h5; simpa [kvN] using this
  have k1 := (look_none (k := (u : Int)) (kvN T) 0).2 (kvN_key.2 hu)
  have k2 := (look_none (k := (u : Int)) (kvP T) 0).2 (kvP_key.2 hu)
  have hm : (h.set mn (.mp (es ++ [{ key := .int .i64 (u : Int), val := .int .i64 (T.length : Int), born := c }]) (c + 1))).blk mp = some (.mp es' c') := by rw [blk_set_ne _ _ _ (fun e => a.ne e.symm)]; exact h4
  have f : Fm mn mp h ((h.set mn (.mp (es ++ [{ key := .int .i64 (u : Int), val := .int .i64 (T.length : Int), born := c }]) (c + 1))).set mp (.mp (es' ++ [{ key := .int .i64 (u : Int), val := .int .i64 (v : Int), born := c' }]) (c' + 1))) :=
    ⟨Nat.le_refl _, fun b _ q1 q2 => by rw [blk_set_ne _ _ _ q2, blk_set_ne _ _ _ q1]⟩
  refine ⟨_, fun K => ?_, ?_, f⟩
  · have e1 : ∀ (K : Int → Option R), mlen h (.map (some mn)) K = K (T.length : Int) := fun K => by simp only [mlen, h3, hl]
    rw [e1, mup_new under87 under3i h3 h5 k1, show frew bp (.map (some mn)) (nx h) = true by
      have := a.cl.2.2.1; simp [frew, n2, this], ck_true, mup_new under87 under3i hm h6 k2]
  · obtain ⟨c1, c2, c3, c4⟩ := a.cl
    refine ⟨a.row f a.t c1, a.row f a.n c2, a.row f a.p c3, a.row f a.v c4, a.sl f a.s, ⟨_, _, (blk_set_ne _ _ _ a.ne).trans (blk_set_self _ _ _), ?_⟩, ⟨_, _, blk_set_self _ _ _, ?_⟩, a.ne, a.lt, a.lp, a.cl⟩
    · rw [kvN_snoc]; exact h5.snoc _ _
    · rw [kvP_snoc]; exact h6.snoc _ _

end

set_option maxHeartbeats 1000000 in
theorem s75 {g : List Nat} (hg : GrN g) {bt bn bp bv mn mp : Nat} {tv : Value} : ∀ (d : Nat) (T1 : TL) (v : Nat) (p : Int) (h : H), Wf g (T1 ++ [(v, p)]) → g.length ≤ T1.length + d → HT g (T1 ++ [(v, p)]) bt bn bp bv mn mp tv h →
    ∃ X h', rn 75 #[iv v, pt bt 0, pt bn 0, pt bp 0, pt bv 0] h = some (undef, h') ∧ HT g (T1 ++ [(v, p)] ++ X) bt bn bp bv mn mp tv h' ∧ Fm mn mp h h' ∧ Vis g (T1 ++ [(v, p)]) v X := by
  intro d
  induction d with
  | zero =>
    intro T1 v p h hw hl _
    have := hw.len
    simp at this
    omega
  | succ d ih =>
    intro T1 v p h hw hl ht
    have hlen := hg.len
    have hpow := hg.pow
    have hv : v < g.length := hw.lt v (by simp [nodesT])
    have hnb := hg.nb_lt v
    obtain ⟨v6, h1, e76, x1, hs6⟩ := s76 (S := nb g v) (by omega) h
    have c76 := fun (K : Value → H → Option (Value × H)) => calls_eq (K := K) (xs := [iv (nb g v : Nat)]) e76
    have ht1 := ht.ext x1.toExt
    have hel : (elts (nb g v)).length ≤ 10 := by unfold elts; exact Nat.le_trans (List.length_filter_le ..) (by simp)
    have hn6 : ∀ {T : Type} (K : Int → Option T), len v6 K = K ((elts (nb g v)).length : Int) := fun K => by rw [hs6.len]; simp
    generalize hT : T1 ++ [(v, p)] = T at *
    obtain ⟨e, ws', h2, hlp, rfl, X, ht2, f2, hX⟩ := lp_range (F := f75_l1 rn 20 v (pt bn 0) (pt bp 0) (pt bv 0) v6 (elts (nb g v)).length) (k := 20) (n := (elts (nb g v)).length)
      (fun i ws h2 => ws = [iv i] ∧ ∃ X, HT g (T ++ X) bt bn bp bv mn mp tv h2 ∧ Fm mn mp h1 h2 ∧ Lp g T v X i)
      (fun e ws h2 => e = .exit 0 ∧ ∃ X, HT g (T ++ X) bt bn bp bv mn mp tv h2 ∧ Fm mn mp h1 h2 ∧ Lp g T v X (elts (nb g v)).length)
      (by
        rintro i ws h2 hi ⟨rfl, X, ht2, f2, hX⟩
        have hu := List.getElem?_eq_getElem hi
        generalize (elts (nb g v))[i] = u at hu
        have hum := (mem_elts (by omega)).1 (List.mem_of_getElem? hu)
        have hadd : add .i64 (i : Int) 1 = ((i + 1 : Nat) : Int) := by rw [add64 (by omega) (by omega)]; omega
        have hs2 := ht1.sl f2 hs6
        obtain ⟨es, c, hm1, hm2⟩ := ht2.hn
        have e1 : ∀ (K : Value → Option (Ex × List Value × H)), (six v6 (i : Int) 1 fun b o => ld Tryd.prog h2 3 b o K) = K (iv (u : Int)) := fun K =>
          hs2.ld0 ag3 (by omega) (x := [iv (u : Int)]) (by simp [hu]) rfl K
        have cn : ∀ (K : Value → Option (Ex × List Value × H)), (ld Tryd.prog h2 87 bn 0 K) = K (.map (some mn)) := fun K => by rw [d87, cell_of ht2.n]; rfl
        have cp : ∀ (K : Value → Option (Ex × List Value × H)), (ld Tryd.prog h2 87 bp 0 K) = K (.map (some mp)) := fun K => by rw [d87, cell_of ht2.p]; rfl
        by_cases hin : u ∈ nodesT (T ++ X)
        · have hlook : ∃ r z, look (kvN (T ++ X)) (u : Int) 0 = some (r, iv z) := by
            cases hlk : look (kvN (T ++ X)) (u : Int) 0 with
            | none => exact absurd hin (kvN_key.1 ((look_none _ _).1 hlk))
            | some r =>
              obtain ⟨j, h5, h6⟩ := look_some _ _ _ hlk
              unfold kvN at h6
              rw [List.getElem?_map] at h6
              obtain ⟨y, _, hy⟩ := Option.map_eq_some_iff.1 h6
              exact ⟨r.1, y.2, by rw [(Prod.mk.inj hy).2]⟩
          obtain ⟨r, z, hlk⟩ := hlook
          refine ⟨.normal, [iv ((i + 1 : Nat) : Int)], h2, ?_, .inl ⟨rfl, rfl, X, ht2, f2, hX.skip hu hin⟩⟩
          unfold f75_l1
          rw [show AM.gv [iv i] 0 = iv i from rfl, asI_int, lt_t (by omega), ifB_true, asK_int, e1, asI_int, asP_ptr, cn, lok_int under87 under3i zero3' hm1 hm2, hlk]
          simp [hadd]
        · have hlk := (look_none (k := (u : Int)) (kvN (T ++ X)) 0).2 (kvN_key.2 hin)
          obtain ⟨h4, e4, ht4, f4⟩ := ht2.enter (R := Ex × List Value × H) (v := v) hin
          have hvT : v ∈ nodesT (T ++ X) := by rw [← hT]; simp [nodesT]
          have hw' : Wf g (T ++ X ++ [(u, (v : Int))]) := hX.wf.snoc hg.toGrB hvT hin hum
          obtain ⟨Y, h5, e5, ht5, f5, vY⟩ := ih (T ++ X) u (v : Int) h4 hw' (by rw [← hT]; simp; omega) ht4
          have c75 := fun (K : Value → H → Option (Ex × List Value × H)) => calls_eq (K := K) (xs := [iv u, pt bt 0, pt bn 0, pt bp 0, pt bv 0]) e5
          have cv : ∀ (K : Value → Option (Ex × List Value × H)), (ld Tryd.prog h4 88 bv 0 K) = K (visF bt bn bp bv) := fun K => by rw [d88, cell_of ht4.v]; rfl
          have hXY : T ++ X ++ [(u, (v : Int))] ++ Y = T ++ (X ++ (u, (v : Int)) :: Y) := by simp
          rw [hXY] at ht5
          refine ⟨.normal, [iv ((i + 1 : Nat) : Int)], h5, ?_, .inl ⟨rfl, rfl, X ++ (u, (v : Int)) :: Y, ht5, (f2.trans f4).trans f5, hX.next hu vY⟩⟩
          unfold f75_l1
          rw [show AM.gv [iv i] 0 = iv i from rfl, asI_int, lt_t (by omega), ifB_true, asK_int, e1, asI_int, asP_ptr, cn, lok_int under87 under3i zero3' hm1 hm2, hlk]
          simp only [ext20, ext21, asI_int, asB_bool, asP_ptr, cn, cp]
          rw [show (!false) = true from rfl, ifB_true, e4, cv, callsV_eq, show (#[] : Array Value).toList ++ [iv (u : Int)] ++ (#[pt bt 0, pt bn 0, pt bp 0, pt bv 0] : Array Value).toList = [iv u, pt bt 0, pt bn 0, pt bp 0, pt bv 0] from rfl, c75, hadd]
          rfl)
      (by
        rintro ws h2 ⟨rfl, X, ht2, f2, hX⟩
        exact ⟨.exit 0, [iv (elts (nb g v)).length], h2, by simp [f75_l1], by simp, rfl, X, ht2, f2, hX⟩)
      (ws := [iv 0]) (h := h1) (by omega) ⟨rfl, [], by simpa using ht1, .refl _ _ _, lp0 hw⟩
    have e75 := t75 (k := 20) (n0 := v) (v0 := pt bt 0) (v1 := pt bn 0) (v2 := pt bp 0) (v3 := pt bv 0) (h := h) (h1 := h2) (v := undef) (by
      unfold f75
      rw [asP_ptr, d78, cell_of ht.t, show ([tv] : List Value)[0]? = some tv from rfl, Option.bind_some]
      simp only [d3]
      rw [getN ht.s hv, asI_int, c76, hn6]
      refine (lp_eq hlp).trans ?_
      rfl)
    have f := (Fm.ext (mn := mn) (mp := mp) x1.toExt).trans f2
    obtain ⟨q1, q2, q3⟩ := trunc_blk (P := Tryd.prog) (v := undef) f.nx
    obtain ⟨ht3, f3⟩ := ht2.trunc f ht.lt ht.lp ht.cl ht.s ht q1 q3
    exact ⟨X, _, e75, ht3, f3, by subst hT; exact hX.fin hg⟩

end Go.AM
