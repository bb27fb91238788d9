/- Parts of the proof, put together: the abstract machine, what the functions of the program answer, and plain laws. -/
import Derived.Test.YthmfjfblndophaaMo5

section
namespace Go.AM
open Go.Proofs
/-- A way more was found. -/
def Found (lo nb rb xb : Nat) (B : List Arc) (nxs : List (Sp × Value)) (k : Nat) (S T : Sp) (g0 g' : H) : Prop :=
  ∃ r', NetH lo g' nb rb xb B r' nxs ∧ FlowOk B r' (k + 1) S T ∧ g0.nx ≤ g'.nx ∧ ∀ c, c < g0.nx → c ≠ rb → g'.blk c = g0.blk c
theorem l2_loop {lo nb rb xb k : Nat} {B : List Arc} {r : Sp → Sp → Int} {nxs : List (Sp × Value)} {S T : Sp} {g0 h0 h1 h2 : H} {fr : List (Sp × Sp)} {dn q : List Sp} {u : Sp} {qv v9 a0 : Value} {g : H}
    (hh0 : h0.nx = g0.nx) (hh1 : h1.nx = g0.nx + 1) (hh2 : h2.nx = g0.nx + 2) (bh : BfsH lo nb rb xb B r nxs S T g0 fr (u :: q) qv g) (b : Bfs B r S T fr dn (u :: q)) (sbB : SimpB B) (hc : ∀ a ∈ B, a.2.2 ≤ 1000) (fl : FlowOk B r k S T) (hB : B.length ≤ 300)
    (hv : SlR g0 113 3 v9 ((nbrs B u).map Sp.cells)) :
    ∃ e ws g', (∀ {R : Type} (K : Ex → List Value → H → Option R), lp 1000 (f103_l2 rn 1000 (pt nb 0) h0 h1 h2 v9 (nbrs B u).length) [a0, qv, iv 0] g K = K e ws g') ∧
      ((e = .exit 2 ∧ ∃ fr' q' qv' j, ws = [a0, qv', j] ∧ BfsH lo nb rb xb B r nxs S T g0 fr' (u :: q') qv' g' ∧ Bfs B r S T fr' dn (u :: q') ∧ ∀ y ∈ nbrs B u, y ∈ fr'.map (·.1) ∨ r u y = 0) ∨
       (e = .ret ∧ ∃ qv' j, ws = [.bool true, qv', j] ∧ Found lo nb rb xb B nxs k S T g0 g')) := by
  have hN := nbrs_len B u
  obtain ⟨e, ws, g', e1, e2⟩ := lp_meas (F := f103_l2 rn 1000 (pt nb 0) h0 h1 h2 v9 (nbrs B u).length) (σ := Nat × List (Sp × Sp) × List Sp × Value)
    (fun s ws g => ws = [a0, s.2.2.2, iv s.1] ∧ s.1 ≤ (nbrs B u).length ∧ BfsH lo nb rb xb B r nxs S T g0 s.2.1 (u :: s.2.2.1) s.2.2.2 g ∧ Bfs B r S T s.2.1 dn (u :: s.2.2.1) ∧ ∀ y ∈ (nbrs B u).take s.1, y ∈ s.2.1.map (·.1) ∨ r u y = 0)
    (fun s => (nbrs B u).length - s.1)
    (fun e ws g' => (e = .exit 2 ∧ ∃ fr' q' qv' j, ws = [a0, qv', j] ∧ BfsH lo nb rb xb B r nxs S T g0 fr' (u :: q') qv' g' ∧ Bfs B r S T fr' dn (u :: q') ∧ ∀ y ∈ nbrs B u, y ∈ fr'.map (·.1) ∨ r u y = 0) ∨
       (e = .ret ∧ ∃ qv' j, ws = [.bool true, qv', j] ∧ Found lo nb rb xb B nxs k S T g0 g'))
    (fun s ws g hI => by
      obtain ⟨j, fr, q, qv⟩ := s
      obtain ⟨rfl, hj, bh, b, hd⟩ := hI
      simp only at hj bh b hd ⊢
      have hlen := b.len
      rw [List.length_append, List.length_cons] at hlen
      have hfl : fr.length = dn.length + (q.length + 1) := by
        have := congrArg List.length b.keys
        simpa using this
      by_cases hlt : j < (nbrs B u).length
      · obtain ⟨y, hy⟩ : ∃ y, (nbrs B u)[j]? = some y := ⟨_, List.getElem?_eq_getElem hlt⟩
        have hyN := List.mem_of_getElem? hy
        have hon := mem_nbrs.1 hyN
        have hvg : SlR g 113 3 v9 ((nbrs B u).map Sp.cells) := hv.ext ⟨by have := bh.nx; omega, bh.old⟩
        have htk : ∀ y' ∈ (nbrs B u).take (j + 1), y' ∈ (nbrs B u).take j ∨ y' = y := fun y' h => by
          rw [List.take_add_one, hy] at h
          simpa using h
        by_cases hs : y ∈ fr.map (·.1) ∨ r u y = 0
        · obtain ⟨g', f1, x1⟩ := l2_skip (kk := 1000) (a0 := a0) (h0 := h0) (h1 := h1) hh2 bh b.fo hvg hy (by omega) hon hs
          exact ⟨_, _, g', f1, .inl ⟨rfl, (j + 1, fr, q, qv), ⟨rfl, hlt, bh.ext x1, b, fun y' h => (htk y' h).elim (hd y') (fun e => by rw [e]; exact hs)⟩, by simp only; omega⟩⟩
        · have hs1 : y ∉ fr.map (·.1) := fun h => hs (.inl h)
          have hr : r u y ≠ 0 := fun h => hs (.inr h)
          by_cases hT : y = T
          · subst hT
            obtain ⟨g', r', f1, f2, f3, f4, f5⟩ := l2_found (kk := 1000) (a0 := a0) hh0 hh1 hh2 bh b sbB hc fl hvg hy (by omega) (by omega) hon hr
            exact ⟨_, _, g', f1, .inr ⟨by simp, .inr ⟨rfl, _, _, rfl, r', f2, f3, f4, f5⟩⟩⟩
          · have hr1 : 1 ≤ r u y := by have := (small_of fl.start hc u y hon).1; omega
            obtain ⟨g', qv', f1, f2, _⟩ := l2_add (kk := 1000) (a0 := a0) (h0 := h0) hh1 hh2 bh hvg hy (by omega) (by omega) hon hs1 hr hT
            refine ⟨_, _, g', f1, .inl ⟨rfl, (j + 1, fr ++ [(y, u)], q ++ [y], qv'), ⟨rfl, hlt, f2, b.add List.mem_cons_self hs1 hyN hr1 hT, fun y' h => ?_⟩, by simp only; omega⟩⟩
            rw [List.map_append]
            rcases htk y' h with h | h
            · exact (hd y' h).imp (fun h => List.mem_append_left _ h) id
            · exact .inl (List.mem_append_right _ (by simp [h]))
      · have : j = (nbrs B u).length := by omega
        subst this
        refine ⟨.exit 2, [a0, qv, iv (nbrs B u).length], g, ?_, .inr ⟨by simp, .inl ⟨rfl, fr, q, qv, _, rfl, bh, b, fun y hy => hd y (by rw [List.take_length]; exact hy)⟩⟩⟩
        unfold f103_l2
        simp only [gv, List.getD_cons_zero, List.getD_cons_succ, asI_int]
        rw [lt_f (by omega), ifB_false]; rfl) 1000 (0, fr, q, qv) [a0, qv, iv 0] g (by simp only; omega) ⟨rfl, Nat.zero_le _, bh, b, fun y hy => by simp at hy⟩
  exact ⟨e, ws, g', fun K => lp_eq e1, e2⟩
theorem nbr_slice {lo nb rb xb : Nat} {B : List Arc} {r : Sp → Sp → Int} {nxs : List (Sp × Value)} {h : H} (nt : NetH lo h nb rb xb B r nxs) (u : Sp) : ∃ v9, (valK nxs u).getD (.slice none 0 0) = v9 ∧ SlR h 113 3 v9 ((nbrs B u).map Sp.cells) := by
  cases hv : valK nxs u with
  | some v => exact ⟨v, rfl, (nt.next.ok u v hv).slR⟩
  | none => exact ⟨_, rfl, by rw [nt.next.no u hv]; exact .nil⟩
theorem l1_loop {lo nb rb xb k : Nat} {B : List Arc} {r : Sp → Sp → Int} {nxs : List (Sp × Value)} {S T : Sp} {g0 h0 h1 h2 : H} {qv : Value} {g : H}
    (hh0 : h0.nx = g0.nx) (hh1 : h1.nx = g0.nx + 1) (hh2 : h2.nx = g0.nx + 2) (bh : BfsH lo nb rb xb B r nxs S T g0 [(S, S)] [S] qv g) (hST : S ≠ T) (sbB : SimpB B) (hc : ∀ a ∈ B, a.2.2 ≤ 1000) (fl : FlowOk B r k S T) (hB : B.length ≤ 300) :
    ∃ e ws g', (∀ {R : Type} (K : Ex → List Value → H → Option R), lp 1000 (f103_l1 rn 1000 (pt nb 0) h0 h1 h2) [.bool false, qv] g K = K e ws g') ∧
      ((e = .exit 0 ∧ (∃ qv', ws = [.bool false, qv']) ∧ (∃ R : Sp → Bool, R S = true ∧ R T = false ∧ ∀ a ∈ B, (R a.1 = true → R a.2.1 = false → r a.1 a.2.1 = 0) ∧ (R a.2.1 = true → R a.1 = false → r a.2.1 a.1 = 0)) ∧ Ext g0 g') ∨
       (e = .ret ∧ (∃ qv', ws = [.bool true, qv']) ∧ Found lo nb rb xb B nxs k S T g0 g')) := by
  obtain ⟨e, ws, g', e1, e2⟩ := lp_meas (F := f103_l1 rn 1000 (pt nb 0) h0 h1 h2) (σ := List (Sp × Sp) × List Sp × List Sp × Value)
    (fun s ws g => ws = [.bool false, s.2.2.2] ∧ Bfs B r S T s.1 s.2.1 s.2.2.1 ∧ g0.nx + 3 ≤ g.nx ∧ (∀ c, c < g0.nx → g.blk c = g0.blk c) ∧ ((s.2.2.1 = [] ∧ ∃ a m c, s.2.2.2 = .slice a 0 c ∧ m = 0) ∨ BfsH lo nb rb xb B r nxs S T g0 s.1 s.2.2.1 s.2.2.2 g))
    (fun s => 2 * B.length + 1 - s.2.1.length)
    (fun e ws g' => (e = .exit 0 ∧ (∃ qv', ws = [.bool false, qv']) ∧ (∃ R : Sp → Bool, R S = true ∧ R T = false ∧ ∀ a ∈ B, (R a.1 = true → R a.2.1 = false → r a.1 a.2.1 = 0) ∧ (R a.2.1 = true → R a.1 = false → r a.2.1 a.1 = 0)) ∧ Ext g0 g') ∨
       (e = .ret ∧ (∃ qv', ws = [.bool true, qv']) ∧ Found lo nb rb xb B nxs k S T g0 g'))
    (fun s ws g hI => by
      obtain ⟨fr, dn, q, qv⟩ := s
      obtain ⟨rfl, b, gn, old, hh⟩ := hI
      simp only at b hh ⊢
      cases q with
      | nil =>
        have hlen : ∃ a n c, qv = .slice a n c ∧ n = 0 := by
          rcases hh with ⟨_, a, m, c, h, _⟩ | bh
          · exact ⟨a, 0, c, h, rfl⟩
          · obtain ⟨a, n, c, h⟩ := bh.qB.slR.isSl
            have hl := fun (K : Int → Option Unit) => bh.qB.slR.len (K := K)
            refine ⟨a, n, c, h, ?_⟩
            have := hl fun n => if n = 0 then some () else none
            rw [h] at this
            simp only [len_slice, List.map_nil, List.length_nil] at this
            by_cases hn : (n : Int) = 0
            · omega
            · rw [if_neg hn] at this; simp at this
        obtain ⟨a, n, c, rfl, rfl⟩ := hlen
        refine ⟨.exit 0, [.bool false, .slice a 0 c], g, ?_, .inr ⟨by simp, .inl ⟨rfl, ⟨_, rfl⟩, b.fail, by omega, old⟩⟩⟩
        unfold f103_l1
        simp only [gv, List.getD_cons_zero, List.getD_cons_succ, len_slice]
        rfl
      | cons u q =>
        have bh : BfsH lo nb rb xb B r nxs S T g0 fr (u :: q) qv g := hh.resolve_left (fun h => by cases h.1)
        have hlen := b.len
        rw [List.length_append, List.length_cons] at hlen
        obtain ⟨v9, hv9, sl9⟩ := nbr_slice bh.net u
        obtain ⟨a0, n0, c0, hq0⟩ := bh.qB.slR.isSl
        obtain ⟨e, ws, g', k1, k2⟩ := l2_loop (a0 := .bool false) hh0 hh1 hh2 bh b sbB hc fl hB sl9
        have net := bh.netg
        have pre : ∀ {z : Option (Ex × List Value × H)}, (onE e 2 (sli Try.prog g' 134 (gv ws 1) (some (.int .i64 1)) none none fun v47 => out .normal [gv ws 0, v47] g') (onR e (out .ret [gv ws 0, gv ws 1] g'))) = z → f103_l1 rn 1000 (pt nb 0) h0 h1 h2 [.bool false, qv] g = z := by
          intro z hz
          unfold f103_l1
          simp only [gv, List.getD_cons_zero, List.getD_cons_succ]
          rw [bh.qB.slR.len, lt_t (by simp), ifB_true]
          simp only [AM.nil, asP_ptr]
          rw [d116, cell_of net.str, show off 0 1 = 1 from rfl]
          simp only [List.getElem?_cons_succ, List.getElem?_cons_zero, Option.bind_some]
          rw [bh.qB.slR.ldA ag113 sz113 (by omega) (x := u.cells) (by simp), show (Value.agg u.cells.toArray) = u.val from rfl, lok_of0 keyS under116 zero134 net.next.mp, hv9, (sl9.ext ⟨by omega, old⟩).len, List.length_map]
          exact (k1 _).trans hz
        rcases k2 with ⟨rfl, fr', q', qv', j, rfl, bh', b', cl⟩ | ⟨rfl, qv', j, rfl, fd⟩
        · obtain ⟨v', s1, s2, s3, _⟩ := bh'.qB.tail (by omega) under134 sz113
          refine ⟨.normal, [.bool false, v'], g', pre ?_, .inl ⟨rfl, (fr', dn ++ [u], q', v'), ⟨rfl, b'.next cl, bh'.nx, bh'.old, ?_⟩, by simp only [List.length_append, List.length_singleton]; omega⟩⟩
          · rw [onE_exit, if_pos rfl]
            exact s1 _
          · cases q' with
            | nil =>
              obtain ⟨b1, o1, c1, h1⟩ := s3 rfl
              exact .inl ⟨rfl, _, 0, _, h1, rfl⟩
            | cons u' q' => exact .inr ⟨bh'.net, bh'.sB, bh'.tB, bh'.fB, s2 (by simp), bh'.nx, bh'.old⟩
        · exact ⟨.ret, [.bool true, qv'], g', pre rfl, .inr ⟨by simp, .inr ⟨rfl, ⟨_, rfl⟩, fd⟩⟩⟩) 1000 ([(S, S)], [], [S], qv) [.bool false, qv] g (by simp only [List.length_nil]; omega)
    ⟨rfl, .init hST, bh.nx, bh.old, .inr bh⟩
  exact ⟨e, ws, g', fun K => lp_eq e1, e2⟩
end Go.AM
end

section
namespace Go.AM
open Go.Proofs
theorem s103 {lo nb rb xb k : Nat} {B : List Arc} {r : Sp → Sp → Int} {nxs : List (Sp × Value)} {S T : Sp} {h : H} (nt : NetH lo h nb rb xb B r nxs) (hST : S ≠ T) (sbB : SimpB B) (hc : ∀ a ∈ B, a.2.2 ≤ 1000) (fl : FlowOk B r k S T) (hB : B.length ≤ 300) :
    (∃ h' r', rn 103 #[pt nb 0, S.val, T.val] h = some (.bool true, h') ∧ NetH lo h' nb rb xb B r' nxs ∧ FlowOk B r' (k + 1) S T ∧ h.nx ≤ h'.nx ∧ ∀ c, c < h.nx → c ≠ rb → h'.blk c = h.blk c) ∨
    (rn 103 #[pt nb 0, S.val, T.val] h = some (.bool false, h) ∧ ∃ R : Sp → Bool, R S = true ∧ R T = false ∧ ∀ a ∈ B, (R a.1 = true → R a.2.1 = false → r a.1 a.2.1 = 0) ∧ (R a.2.1 = true → R a.1 = false → r a.2.1 a.1 = 0)) := by
  generalize e1 : h.new (.row S.cells 113 true) = h1
  generalize e2 : h1.new (.row T.cells 113 true) = h2
  generalize e3 : h2.new (.mp [] 0) = h3
  generalize e4 : h3.set h2.nx (mpOf Sp.val (kvF [(S, S)])) = h4
  generalize e5 : h4.new (.row S.cells 113 true) = h5
  have n1 : h1.nx = h.nx + 1 := by rw [← e1]; rfl
  have n2 : h2.nx = h.nx + 2 := by rw [← e2]; show h1.nx + 1 = _; omega
  have n3 : h3.nx = h.nx + 3 := by rw [← e3]; show h2.nx + 1 = _; omega
  have n4 : h4.nx = h.nx + 3 := by rw [← e4]; exact n3
  have n5 : h5.nx = h.nx + 4 := by rw [← e5]; show h4.nx + 1 = _; omega
  have s3 : h3.blk h.nx = some (.row S.cells 113 true) := by rw [← e3, blk_new, if_neg (by omega), ← e2, blk_new, if_neg (by omega), ← e1, blk_new, if_pos rfl]
  have t3 : h3.blk h1.nx = some (.row T.cells 113 true) := by rw [← e3, blk_new, if_neg (by omega), ← e2, blk_new, if_pos rfl]
  have f3 : h3.blk h2.nx = some (mpOf Sp.val []) := by rw [← e3, blk_new, if_pos rfl]; rfl
  have b4 : ∀ c, c ≠ h2.nx → h4.blk c = h3.blk c := fun c hc => by rw [← e4]; show (if c = h2.nx then _ else _) = _; rw [if_neg hc]
  have f4 : h4.blk h2.nx = some (mpOf Sp.val (kvF [(S, S)])) := by rw [← e4]; show (if h2.nx = h2.nx then _ else _) = _; rw [if_pos rfl]
  have b5 : ∀ c, c < h4.nx → h5.blk c = h4.blk c := fun c hc => by rw [← e5, blk_new, if_neg (by omega)]
  have old3 : ∀ c, c < h.nx → h3.blk c = h.blk c := fun c hc => by rw [← e3, blk_new, if_neg (by omega), ← e2, blk_new, if_neg (by omega), ← e1, blk_new, if_neg (by omega)]
  have qB : QlR (h.nx + 3) h5 113 3 (.slice (some ⟨h4.nx, 0, none⟩) 1 1) ([S].map Sp.cells) := by rw [← e5]; exact QlR.lit (by omega) rfl
  have bh : BfsH lo nb rb xb B r nxs S T h [(S, S)] [S] (.slice (some ⟨h4.nx, 0, none⟩) 1 1) h5 := ⟨nt, by rw [b5 _ (by omega), b4 _ (by omega), s3], by rw [b5 _ (by omega), b4 _ (by omega), ← n1, t3], by rw [b5 _ (by omega), ← n2, f4], qB, by omega, fun c hc => by rw [b5 _ (by omega), b4 _ (by omega), old3 c hc]⟩
  obtain ⟨e, ws, g', k1, k2⟩ := l1_loop (h0 := h) (h1 := h1) (h2 := h2) rfl n1 n2 bh hST sbB hc fl hB
  have pre : ∀ {z : Option (Value × H)}, onE e 0 (some (.bool false, g')) (onR e (some (gv ws 0, g'))) = z → f103 rn 1000 (pt nb 0) S.val T.val h = z := by
    intro z hz
    unfold f103
    rw [bxS, e1, bxS, e2, mkm_eq, e3]
    simp only [nx_eq]
    rw [ldS s3, ldS s3, mup_of keyS under133 f3, show putK ([] : List (Sp × Value)) S S.val = kvF [(S, S)] from rfl, e4, ldS (by rw [b4 _ (by omega), s3]), kbls134, e5]
    exact (k1 _).trans hz
  rcases k2 with ⟨rfl, ⟨qv', rfl⟩, hR, x⟩ | ⟨rfl, ⟨qv', rfl⟩, r', m1, m2, m3, m4⟩
  · exact .inr ⟨p103 (pre rfl) rfl x, hR⟩
  · refine .inl ⟨_, r', t103 (pre rfl), ?_, m2, ?_, ?_⟩
    · obtain ⟨t1, t2, t3⟩ := trunc_blk (P := Try.prog) (h := h) (h1 := g') (v := .bool true) m3
      have old : ∀ c, c < h.nx → (trunc Try.prog h g' (.bool true)).blk c = g'.blk c := t3
      have l1 := nt.nlt
      have l2 := nt.rlt
      have l3 := nt.next.xlt
      exact ⟨by rw [old _ l1, m1.str], by omega, by rw [old _ l2, m1.rm], by omega, m1.ne, ⟨by rw [old _ l3, m1.next.mp], by omega, fun u v hv => by
        have a := nt.next.ok u v hv
        have b := m1.next.ok u v hv
        generalize (nbrs B u).map Sp.cells = L at a b ⊢
        cases b with
        | nil => exact .nil
        | @at_ b c l hlo hb hr hx hm hc =>
          have hbl := (a.blkOf (b := b) rfl).2.1
          exact .at_ hlo (by omega) (by rw [old b hbl, hr]) hx hm hc, m1.next.no, m1.next.dis⟩, m1.los⟩
    · exact (trunc_blk (P := Try.prog) (h := h) (h1 := g') (v := .bool true) m3).1
    · intro c c1 c2
      rw [(trunc_blk (P := Try.prog) (h := h) (h1 := g') (v := .bool true) m3).2.2 c c1, m4 c c1 c2]
end Go.AM
end

section
namespace Go.AM
open Go.Proofs
theorem base_cap {n : Nat} {l : List Kl} {d : Nat → Bool} {m : Nat} : ∀ a ∈ baseA n l d m, 0 ≤ a.2.2 ∧ a.2.2 ≤ 1000 := by
  intro a ha
  obtain ⟨i, _, h⟩ := base_mem.1 ha
  rcases chunk_cases h with ⟨p, _, rfl⟩ | ⟨_, c, _, hg⟩
  · simp
  · rcases gates_cases hg with rfl | rfl | rfl | rfl | rfl <;> simp
theorem flow_small {n : Nat} {l : List Kl} {d : Nat → Bool} {r : Sp → Sp → Int} {k : Nat} {s t : Int} (f : FlowOk (baseA n l d l.length) r k (at' s 0) (at' t l.length)) (hst : s ≠ t) : k ≤ l.length := by
  have := flow_le f (u := fun _ => true) (fun i _ _ h => by cases h) (X := fun _ p => p == s) (fun _ _ => .refl _) (by simp) (by simpa using Ne.symm hst)
  refine Nat.le_trans this ?_
  rw [penS_sum, maskL_len]
  refine Nat.le_trans (sumR_le (g := fun _ => 1) fun i _ => ?_) ?_
  · split
    · exact penB_le _ _ _
    · omega
  · generalize l.length = m
    induction m with
    | zero => simp [sumR]
    | succ m ih => rw [sumR_succ]; omega
/-- A flow that cannot be more. -/
structure MaxF (n : Nat) (l : List Kl) (d : Nat → Bool) (s t : Int) (r : Sp → Sp → Int) (k : Nat) : Prop where
  fl : FlowOk (baseA n l d l.length) r k (at' s 0) (at' t l.length)
  gm : k = GM 1000 t (maskL l d) (fun p => p == s)
theorem s83 {n : Nat} {l : List Kl} {gone : Nat} {sl : Value} {h : H} {s t : Int} (hs : SlR h 56 3 sl (l.map Kl.cells)) (hv : validP n l = true) (hgn : gone < 2 ^ 62) (hsr : 0 ≤ s ∧ s < n) (htr : 0 ≤ t ∧ t < n) (hst : s ≠ t) :
    ∃ (h' : H) (lo nb rb xb : Nat) (nxs : List (Sp × Value)) (r : Sp → Sp → Int) (k : Nat), rn 83 #[.agg #[iv n, sl], iv s, iv t, iv gone] h = some (.tuple #[pt nb 0, iv k], h') ∧ NetH lo h' nb rb xb (baseA n l (goneD gone) l.length) r nxs ∧ MaxF n l (goneD gone) s t r k ∧ Ext h h' ∧ h.nx ≤ lo := by
  have hn := validP_ok hv
  have hok := fun (i : Nat) (c : Kl) (hc : l[i]? = some c) => okC_iff.1 (hn.2.2.2 i c hc)
  have sbB : SimpB (baseA n l (goneD gone) l.length) := base_simp fun i c hc => (hok i c hc).2.2.1
  have hB : (baseA n l (goneD gone) l.length).length ≤ 300 := Nat.le_trans (base_len _) (Nat.le_trans (Nat.mul_le_mul hn.2.2.1 (show n + 5 ≤ 12 by omega)) (by decide))
  have hST : at' s 0 ≠ at' t l.length := fun e => hst (by simp only [Sp.mk.injEq] at e; exact e.1)
  generalize e1 : h.new (.row [iv n, sl] 31 true) = h1
  have n1 : h1.nx = h.nx + 1 := by rw [← e1]; rfl
  have x1 : Ext h h1 := by rw [← e1]; exact .new _ _
  have bx1 : h1.blk h.nx = some (.row [iv n, sl] 31 true) := by rw [← e1, blk_new, if_pos rfl]
  obtain ⟨h2, nb, rb, xb, nxs, c102, nt2, x2⟩ := s102 (hs.ext x1) hv hgn
  have bx2 : h2.blk h.nx = some (.row [iv n, sl] 31 true) := by rw [x2.blk _ (by omega), bx1]
  generalize e3 : h2.new (.row [iv 0, iv 0, .bool false] 113 true) = h3
  generalize e4 : h3.new (.row [iv 0, iv 0, .bool false] 113 true) = h4
  generalize e5 : h4.set h2.nx (.row (at' s 0).cells 113 true) = h5
  generalize e6 : h5.set h3.nx (.row (at' t l.length).cells 113 true) = h6
  have n3 : h3.nx = h2.nx + 1 := by rw [← e3]; rfl
  have n4 : h4.nx = h2.nx + 2 := by rw [← e4]; show h3.nx + 1 = _; omega
  have n6 : h6.nx = h2.nx + 2 := by rw [← e6, ← e5]; exact n4
  have b4 : h4.blk h2.nx = some (.row [iv 0, iv 0, .bool false] 113 true) := by rw [← e4, blk_new, if_neg (by omega), ← e3, blk_new, if_pos rfl]
  have b5 : h5.blk h3.nx = some (.row [iv 0, iv 0, .bool false] 113 true) := by
    rw [← e5]
    show (if h3.nx = h2.nx then _ else h4.blk h3.nx) = _
    rw [if_neg (by omega), ← e4, blk_new, if_pos rfl]
  have s6 : h6.blk h2.nx = some (.row (at' s 0).cells 113 true) := by
    rw [← e6]
    show (if h2.nx = h3.nx then _ else h5.blk h2.nx) = _
    rw [if_neg (by omega), ← e5]
    show (if h2.nx = h2.nx then _ else _) = _
    rw [if_pos rfl]
  have t6 : h6.blk h3.nx = some (.row (at' t l.length).cells 113 true) := by
    rw [← e6]
    show (if h3.nx = h3.nx then _ else _) = _
    rw [if_pos rfl]
  have x6 : Ext h2 h6 := ⟨by omega, fun q hq => by
    rw [← e6]
    show (if q = h3.nx then _ else h5.blk q) = _
    rw [if_neg (by omega), ← e5]
    show (if q = h2.nx then _ else h4.blk q) = _
    rw [if_neg (by omega), ← e4, blk_new, if_neg (by omega), ← e3, blk_new, if_neg (by omega)]⟩
  have nt6 := nt2.ext x6
  have fl0 := flow0 sbB (fun a ha => (base_cap a ha).1) (at' s 0) (at' t l.length)
  have hrblo : h1.nx ≤ rb := nt2.los.2.1
  have rlt2 := nt2.rlt
  obtain ⟨e, ws, g', q1, rfl, r, k, rfl, m1, m2, m3⟩ := lp_meas (F := f83_l1 rn 1000 (pt nb 0) h2 h3) (σ := (Sp → Sp → Int) × Nat)
    (fun s' ws g => ws = [.pointer none, iv 0, iv s'.2] ∧ NetH h1.nx g nb rb xb (baseA n l (goneD gone) l.length) s'.1 nxs ∧ FlowOk (baseA n l (goneD gone) l.length) s'.1 s'.2 (at' s 0) (at' t l.length) ∧ h6.nx ≤ g.nx ∧ ∀ c, c < h6.nx → c ≠ rb → g.blk c = h6.blk c)
    (fun s' => l.length + 1 - s'.2)
    (fun e ws g' => e = .ret ∧ ∃ (r : Sp → Sp → Int) (k : Nat), ws = [pt nb 0, iv k, iv k] ∧ NetH h1.nx g' nb rb xb (baseA n l (goneD gone) l.length) r nxs ∧ MaxF n l (goneD gone) s t r k ∧ (h6.nx ≤ g'.nx ∧ ∀ c, c < h6.nx → c ≠ rb → g'.blk c = h6.blk c))
    (fun s' ws g hI => by
      obtain ⟨r, k⟩ := s'
      obtain ⟨rfl, nt, fl, gn, old⟩ := hI
      simp only at nt fl ⊢
      have hk := flow_small fl hst
      have sg : g.blk h2.nx = some (.row (at' s 0).cells 113 true) := by rw [old _ (by omega) (by omega), s6]
      have tg : g.blk h3.nx = some (.row (at' t l.length).cells 113 true) := by rw [old _ (by omega) (by omega), t6]
      rcases s103 nt hST sbB (fun a ha => (base_cap a ha).2) fl hB with ⟨g', r', c103, p1, p2, p3, p4⟩ | ⟨c103, R, R1, R2, R3⟩
      · have hk' := flow_small p2 hst
        refine ⟨.normal, [.pointer none, iv 0, iv (k + 1 : Nat)], g', ?_, .inl ⟨rfl, (r', k + 1), ⟨rfl, p1, p2, by omega, fun c c1 c2 => by rw [p4 c (by omega) c2, old c c1 c2]⟩, by simp only; omega⟩⟩
        unfold f83_l1
        simp only [nx_eq]
        rw [ldS sg, ldS tg, kEq, decide_eq_false hST, ifB_false, ldS sg, ldS tg]
        refine (calls_eq c103).trans ?_
        simp only [asB_bool, Bool.not_true, ifB_false, gv, List.getD_cons_zero, List.getD_cons_succ, asI_int]
        rw [add64 (by omega) (by omega)]
        rfl
      · refine ⟨.ret, [pt nb 0, iv k, iv k], g, ?_, .inr ⟨by simp, rfl, r, k, rfl, nt, ⟨fl, flow_ge fl (fun i c hc => ⟨(hok i c hc).1, (hok i c hc).2.1⟩) (by omega) hst hsr htr R1 R2 R3⟩, gn, old⟩⟩
        unfold f83_l1
        simp only [nx_eq]
        rw [ldS sg, ldS tg, kEq, decide_eq_false hST, ifB_false, ldS sg, ldS tg]
        refine (calls_eq c103).trans ?_
        simp only [asB_bool, Bool.not_false, ifB_true, gv, List.getD_cons_zero, List.getD_cons_succ]
        rfl) 1000 (room0 (baseA n l (goneD gone) l.length), 0) [.pointer none, iv 0, iv 0] h6 (by simp only; omega) ⟨rfl, nt6, fl0, Nat.le_refl _, fun _ _ _ => rfl⟩
  have hrun : f83 rn 1000 (.agg #[iv n, sl]) s t gone h = some (.tuple #[pt nb 0, iv k], g') := by
    unfold f83
    rw [bx_eq]
    simp only [Value.cells]
    rw [e1]
    simp only [nx_eq]
    rw [d31, rd_all (n := 2) bx1 rfl, Option.bind_some]
    refine (calls_eq c102).trans ?_
    rw [kSp, d29, cell_of bx2, show off 0 1 = 1 from rfl]
    simp only [List.getElem?_cons_succ, List.getElem?_cons_zero, Option.bind_some]
    rw [(hs.ext (x1.trans x2)).len, List.length_map, kSp, al_eq, e3]
    have ck1 : freq h.nx h2.nx (same h3 h2) = true := by
      unfold freq same
      rw [decide_eq_true (by have := x2.nx; omega), ← e3]
      simp [H.new]
    have ck2 : freq h.nx h3.nx (same h4 h3) = true := by
      unfold freq same
      rw [decide_eq_true (by have := x2.nx; omega), ← e4]
      simp [H.new]
    have ck3 : fre h.nx h4.nx 1 1 h2.nx 0 3 = true := by
      unfold fre
      have := x2.nx
      rw [decide_eq_true (by omega), decide_eq_true (.inl (by omega))]
      rfl
    rw [ck1, ck_true, al_eq, e4, ck2, ck_true, st113 (x := ⟨s, 0, false⟩) b4 rfl, show (⟨s, 0, false⟩ : Sp) = at' s 0 from rfl, e5, ck3, ck_true, st113 b5 rfl, e6, lp_eq q1, onR_ret]
    rfl
  have xg : Ext h g' := ⟨by have := x2.nx; omega, fun q hq => by
    have := x2.nx
    rw [m3.2 q (by omega) (by omega), x6.blk _ (by omega), x2.blk _ (by omega), x1.blk _ hq]⟩
  exact ⟨g', h1.nx, nb, rb, xb, nxs, r, k, x83 hrun rfl, m1, m2, xg, by omega⟩
end Go.AM
end

section
namespace Go.AM
open Go.Proofs
def usedN (r : Sp → Sp → Int) : Nat → Nat
  | 0 => 0
  | i + 1 => if 0 < r (outS i) (inS i) then usedN r i ||| 2 ^ i else usedN r i
theorem usedN_lt (r : Sp → Sp → Int) : ∀ m, usedN r m < 2 ^ m := by
  intro m
  induction m with
  | zero => simp [usedN]
  | succ m ih =>
    simp only [usedN]
    have : (2 : Nat) ^ m < 2 ^ (m + 1) := Nat.pow_lt_pow_right (by decide) (by omega)
    split
    · exact Nat.or_lt_two_pow (by omega) this
    · omega
theorem usedN_bit (r : Sp → Sp → Int) (i : Nat) : ∀ m, (usedN r m).testBit i = (decide (i < m) && decide (0 < r (outS i) (inS i))) := by
  intro m
  induction m with
  | zero => simp [usedN]
  | succ m ih =>
    simp only [usedN]
    by_cases h : 0 < r (outS m) (inS m)
    · rw [if_pos h, Nat.testBit_or, ih, Nat.testBit_two_pow]
      by_cases e : m = i
      · subst e; simp [h]
      · have : (decide (i < m + 1)) = decide (i < m) := by
          by_cases h : i < m
          · rw [decide_eq_true h, decide_eq_true (by omega)]
          · rw [decide_eq_false h, decide_eq_false (by omega)]
        rw [this]; simp [e]
    · rw [if_neg h, ih]
      by_cases e : i = m
      · subst e; simp [h]
      · have : (decide (i < m + 1)) = decide (i < m) := by
          by_cases h : i < m
          · rw [decide_eq_true h, decide_eq_true (by omega)]
          · rw [decide_eq_false h, decide_eq_false (by omega)]
        rw [this]
theorem on_gate {n : Nat} {l : List Kl} {d : Nat → Bool} {i : Nat} {c : Kl} (hc : l[i]? = some c) (hd : d i = false) : onA (baseA n l d l.length) (outS i) (inS i) := by
  refine ⟨(inS i, outS i, 1), base_mem.2 ⟨i, (List.getElem?_eq_some_iff.1 hc).1, ?_⟩, .inr ⟨rfl, rfl⟩⟩
  unfold chunk
  rw [hc]
  simp [hd, gates]
theorem s84 {n : Nat} {l : List Kl} {sl : Value} {h : H} {lo nb rb xb : Nat} {nxs : List (Sp × Value)} {r : Sp → Sp → Int} (hs : SlR h 56 3 sl (l.map Kl.cells)) (hl : l.length ≤ 24) (nt : NetH lo h nb rb xb (baseA n l (goneD 0) l.length) r nxs) :
    rn 84 #[.agg #[iv n, sl], pt nb 0] h = some (iv (usedN r l.length), h) := by
  generalize e1 : h.new (.row [iv n, sl] 31 true) = h1
  have n1 : h1.nx = h.nx + 1 := by rw [← e1]; rfl
  have x1 : Ext h h1 := by rw [← e1]; exact .new _ _
  have bx1 : h1.blk h.nx = some (.row [iv n, sl] 31 true) := by rw [← e1, blk_new, if_pos rfl]
  have nt1 := nt.ext x1
  obtain ⟨ws', g, q1, rfl, hg⟩ := lp_for (k := 1000) (l := l) (F := f84_l1 rn 1000 (pt nb 0) l.length) (σ := Unit) (fun _ _ s => s)
    (fun i _ ws g => ws = [iv (usedN r i), iv i] ∧ g = h1) 0 (ws := [iv 0, iv 0]) (h := h1) (s0 := ()) ⟨rfl, rfl⟩ (by omega)
    (fun _ ws g hI => by
      obtain ⟨rfl, rfl⟩ := hI
      unfold f84_l1
      simp only [gv, List.getD_cons_zero, List.getD_cons_succ, asI_int]
      rw [lt_f (by omega), ifB_false]; rfl)
    (fun i c _ ws g hc hI => by
      obtain ⟨rfl, rfl⟩ := hI
      have hi := (List.getElem?_eq_some_iff.1 hc).1
      have hv := (valK_ks (baseA n l (goneD 0) l.length) r (outS i) (inS i)).1 (on_gate hc (by simp))
      refine ⟨[iv (usedN r (i + 1)), iv (i + 1 : Nat)], g, ?_, rfl, rfl⟩
      have hp : (2:Nat) ^ i < 2 ^ 24 := Nat.pow_lt_pow_right (by decide) (by omega)
      have hu := usedN_lt r i
      unfold f84_l1
      simp only [gv, List.getD_cons_zero, List.getD_cons_succ, asI_int, asK_int]
      rw [lt_t (by omega), ifB_true]
      simp only [AM.nil, asP_ptr]
      rw [d115, cell_of nt1.str]
      simp only [List.getElem?_cons_zero, Option.bind_some]
      rw [add64 (by omega) (by omega), kSp, kSp, kA, show ((⟨1, (i : Int) + 1, true⟩ : Sp), (⟨0, (i : Int) + 1, true⟩ : Sp)) = (outS i, inS i) from rfl, lok_of0 keyA under115 zero3 nt1.rm, hv]
      simp only [Option.getD_some, asI_int]
      by_cases h : 0 < r (outS i) (inS i)
      · rw [lt_t h, ifB_true]
        unfold AM.nn
        rw [if_neg (by omega), show (1 : Int) = ((1 : Nat) : Int) from rfl, shl_nat (by omega) (by omega), or_nat (by omega) (by omega)]
        simp only [usedN, if_pos h, Nat.one_mul]
        rfl
      · rw [lt_f h, ifB_false]
        simp only [usedN, if_neg h]
        rfl)
  rw [hg] at q1
  refine p84 (k := 1000) (h1 := h1) ?_ rfl x1
  unfold f84
  rw [bx_eq]
  simp only [Value.cells]
  rw [e1]
  simp only [nx_eq]
  rw [d29, cell_of bx1, show off 0 1 = 1 from rfl]
  simp only [List.getElem?_cons_succ, List.getElem?_cons_zero, Option.bind_some]
  rw [(hs.ext x1).len, List.length_map, lp_eq q1, onE_exit, if_pos rfl]
  rfl
/-- The calls that a greatest flow uses are enough. -/
theorem used_gm {n : Nat} {l : List Kl} {s t : Int} {r : Sp → Sp → Int} {k : Nat} (hl : l.length ≤ 24) (hst : s ≠ t) (m : MaxF n l (goneD 0) s t r k) : GM 1000 t (maskL l fun i => !(usedN r l.length).testBit i) (fun p => p == s) = k := by
  have hX : (fun p => p == s) t = false := by simpa using Ne.symm hst
  have h1 : GM 1000 t (maskL l fun i => !(usedN r l.length).testBit i) (fun p => p == s) ≤ k := by
    rw [m.gm]
    exact GM_more (fun i h => by simp at h) hX (by omega)
  refine Nat.le_antisymm h1 ?_
  have hk := flow_small m.fl hst
  obtain ⟨X, e0, hs, he, hp⟩ := GM_seq (K := 1000) (t := t) (maskL l fun i => !(usedN r l.length).testBit i) (fun p => p == s) (by omega)
  have hm := seq_mono hs
  rw [maskL_len] at he hm
  have := flow_le m.fl (u := fun i => (usedN r l.length).testBit i) (fun i hi _ hu => by
    rw [usedN_bit] at hu
    simp only [Bool.and_eq_false_iff, decide_eq_false_iff_not] at hu
    omega) hm (by rw [e0]; simp) he
  rw [← hp]
  refine Nat.le_trans this (Nat.le_of_eq ?_)
  congr 1
  unfold maskL
  congr 1
  funext q
  simp
end Go.AM
end

section
namespace Go.AM
open Go.Proofs
noncomputable def f86_l1 (_rec : Rec) (_k : Nat) (v0 : Value) (n0 : Int) (ws0 : List Value) (h1 : H) : Option (Ex × List Value × H) :=
 asI .i64 (gv ws0 1) fun n1 =>
 ifB (lt n1 n0) (
 asK (gv ws0 1) fun n2 =>
 six v0 n2 1 fun b2 b3 =>
 ld Try.prog h1 3 b2 b3 fun v8 =>
 asI .i64 v8 fun n3 =>
 nn n3 (
 asI .i64 (gv ws0 0) fun n4 =>
 asI .i64 (gv ws0 1) fun n5 =>
 out .normal [(.int .i64 (or .i64 n4 (shl .i64 1 n3))), (.int .i64 (add .i64 n5 1))] h1)) (
 out (.exit 0) [gv ws0 0, gv ws0 1] h1)
noncomputable def f86 (rec : Rec) (k : Nat) (v0 : Value) (v1 : Value) (v2 : Value) (v3 : Value) (v4 : Value) (v5 : Value) (v6 : Value) (h0 : H) : Option (Value × H) :=
 asP v1 fun b0 b1 =>
 ld Try.prog h0 25 b0 b1 fun v7 =>
 eqv Try.prog 25 v7 (.slice none 0 0) fun q0 =>
 ifB (not q0) (
 some (undef, h0)) (
 len v0 fun n0 =>
 lp k (f86_l1 rec k v0 n0) [(.int .i64 0), (.int .i64 0)] h0 fun e0 ws1 h2 =>
 onE e0 0 (
 asP v2 fun b4 b5 =>
 ld Try.prog h2 31 b4 b5 fun v9 =>
 asP v3 fun b6 b7 =>
 ld Try.prog h2 3 b6 b7 fun v10 =>
 asI .i64 v10 fun n6 =>
 asP v4 fun b8 b9 =>
 ld Try.prog h2 3 b8 b9 fun v11 =>
 asI .i64 v11 fun n7 =>
 calls rec h2 83 [v9, (.int .i64 n6), (.int .i64 n7), gv ws1 0] fun v12 h3 =>
 ext v12 0 fun _ =>
 ext v12 1 fun v14 =>
 asI .i64 v14 fun n8 =>
 asP v5 fun b10 b11 =>
 ld Try.prog h3 3 b10 b11 fun v15 =>
 asI .i64 v15 fun n9 =>
 asP v6 fun b12 b13 =>
 ld Try.prog h3 58 b12 b13 fun v16 =>
 len v16 fun n10 =>
 ifB (eq n8 (sub .i64 (sub .i64 n9 n10) 1)) (
 calls rec h3 75 [v0] fun v17 h4 =>
 asP v1 fun b14 b15 =>
 st Try.prog h4 25 b14 b15 v17 fun h5 =>
 some (undef, h5)) (
 some (undef, h3))) (
 none))
theorem e86 (rec : Rec) (k : Nat) (v0 : Value) (v1 : Value) (v2 : Value) (v3 : Value) (v4 : Value) (v5 : Value) (v6 : Value) (h : H) : bodyT Try.prog E0 SC (XC Try.prog rec k) 86 (Value × H) [.opq v0, .opq v1, .opq v2, .opq v3, .opq v4, .opq v5, .opq v6] h (fun v h => some (v, h)) = f86 rec k v0 v1 v2 v3 v4 v5 v6 h := by kernel_rfl
theorem t86 {k : Nat} {v0 : Value} {v1 : Value} {v2 : Value} {v3 : Value} {v4 : Value} {v5 : Value} {v6 : Value} {h h1 : H} {v : Value} (hh : f86 rn k v0 v1 v2 v3 v4 v5 v6 h = some (v, h1)) : rn 86 #[v0, v1, v2, v3, v4, v5, v6] h = some (v, trunc Try.prog h h1 v) :=
  run_of_bodyT (args := [.opq v0, .opq v1, .opq v2, .opq v3, .opq v4, .opq v5, .opq v6]) rfl ((e86 _ _ _ _ _ _ _ _ _ _).trans hh)
theorem x86 {k : Nat} {v0 : Value} {v1 : Value} {v2 : Value} {v3 : Value} {v4 : Value} {v5 : Value} {v6 : Value} {h h1 : H} {v : Value} (hh : f86 rn k v0 v1 v2 v3 v4 v5 v6 h = some (v, h1)) (hp : plainO v = false) : rn 86 #[v0, v1, v2, v3, v4, v5, v6] h = some (v, h1) := by rw [t86 hh, trunc_not hp]
noncomputable def f48_l2 (_rec : Rec) (_k : Nat) (ws0 : List Value) (h10 : H) (v17 : Value) (n11 : Int) (ws1 : List Value) (h13 : H) : Option (Ex × List Value × H) :=
 asI .i64 (gv ws1 1) fun n12 =>
 ifB (lt n12 n11) (
 asK (gv ws1 1) fun n13 =>
 six v17 n13 3 fun b0 b1 =>
 ld Try.prog h13 56 b0 b1 fun v18 =>
 al h13 56 [(.int .i64 0), (.int .i64 0), (.int .i64 0)] fun h14 =>
 st Try.prog h14 56 (nx h13) 0 v18 fun h15 =>
 asI .i64 (gv ws0 0) fun n14 =>
 asK (gv ws1 1) fun n15 =>
 nn n15 (
 ifB (eq (and .i64 (shr .i64 n14 n15) 1) 1) (
 ld Try.prog h15 29 (nx h10) (off 0 1) fun v19 =>
 ld Try.prog h15 56 (nx h13) 0 fun v20 =>
 bls Try.prog h15 29 1 [(0, v20)] fun v21 h16 =>
 app Try.prog h16 29 29 v19 v21 fun v22 h17 =>
 st Try.prog h17 29 (nx h10) (off 0 1) v22 fun h18 =>
 bls Try.prog h18 25 1 [(0, gv ws1 1)] fun v23 h19 =>
 app Try.prog h19 25 25 (gv ws1 0) v23 fun v24 h20 =>
 asI .i64 (gv ws1 1) fun n16 =>
 out .normal [v24, (.int .i64 (add .i64 n16 1))] h20) (
 asI .i64 (gv ws1 1) fun n17 =>
 out .normal [gv ws1 0, (.int .i64 (add .i64 n17 1))] h15))) (
 out (.exit 2) [gv ws1 0, gv ws1 1] h13)
noncomputable def f48_l3 (_rec : Rec) (_k : Nat) (ws2 : List Value) (h21 : H) (v29 : Value) (n20 : Int) (ws3 : List Value) (h24 : H) : Option (Ex × List Value × H) :=
 asI .i64 (gv ws3 1) fun n21 =>
 ifB (lt n21 n20) (
 asK (gv ws3 1) fun n22 =>
 six v29 n22 1 fun b2 b3 =>
 ld Try.prog h24 3 b2 b3 fun v30 =>
 asI .i64 v30 fun n23 =>
 ld Try.prog h24 25 (nx h21) 0 fun v31 =>
 six (gv ws2 0) n23 1 fun b4 b5 =>
 ld Try.prog h24 3 b4 b5 fun v32 =>
 asI .i64 v32 fun n24 =>
 asK (gv ws3 1) fun n25 =>
 six v31 n25 1 fun b6 b7 =>
 st Try.prog h24 3 b6 b7 (.int .i64 n24) fun h25 =>
 six (gv ws2 0) n23 1 fun b8 b9 =>
 ld Try.prog h25 3 b8 b9 fun v33 =>
 asI .i64 v33 fun n26 =>
 nn n26 (
 asI .i64 (gv ws3 0) fun n27 =>
 asI .i64 (gv ws3 1) fun n28 =>
 out .normal [(.int .i64 (andNot .i64 n27 (shl .i64 1 n26))), (.int .i64 (add .i64 n28 1))] h25)) (
 out (.exit 4) [gv ws3 0, gv ws3 1] h24)
noncomputable def f48_l1 (rec : Rec) (k : Nat) (h0 : H) (h1 : H) (h2 : H) (h5 : H) (h8 : H) (ws0 : List Value) (h10 : H) : Option (Ex × List Value × H) :=
 ld Try.prog h10 58 (nx h8) 0 fun v13 =>
 len v13 fun n8 =>
 ld Try.prog h10 3 (nx h5) 0 fun v14 =>
 asI .i64 v14 fun n9 =>
 ifB (lt n8 n9) (
 ld Try.prog h10 3 (nx h0) 0 fun v15 =>
 asI .i64 v15 fun n10 =>
 bld Try.prog 31 [(0, (.int .i64 n10))] fun v16 =>
 al h10 31 [(.int .i64 0), (.slice none 0 0)] fun h11 =>
 st Try.prog h11 31 (nx h10) 0 v16 fun h12 =>
 ld Try.prog h12 29 (nx h0) (off 0 1) fun v17 =>
 len v17 fun n11 =>
 lp k (f48_l2 rec k ws0 h10 v17 n11) [(.slice none 0 0), (.int .i64 0)] h12 fun e0 ws2 h21 =>
 onE e0 2 (
 al h21 25 [(.slice none 0 0)] fun h22 =>
 ld Try.prog h22 31 (nx h10) 0 fun v25 =>
 ld Try.prog h22 3 (nx h1) 0 fun v26 =>
 asI .i64 v26 fun n18 =>
 ld Try.prog h22 3 (nx h2) 0 fun v27 =>
 asI .i64 v27 fun n19 =>
 calls rec h22 85 [v25, (.int .i64 n18), (.int .i64 n19), (.func (.func 86) #[] #[(pt (nx h21) 0), (pt (nx h10) 0), (pt (nx h1) 0), (pt (nx h2) 0), (pt (nx h5) 0), (pt (nx h8) 0)])] fun _ h23 =>
 ld Try.prog h23 25 (nx h21) 0 fun v29 =>
 len v29 fun n20 =>
 lp k (f48_l3 rec k ws2 h21 v29 n20) [gv ws0 0, (.int .i64 0)] h23 fun e1 ws4 h26 =>
 onE e1 4 (
 ld Try.prog h26 58 (nx h8) 0 fun v34 =>
 ld Try.prog h26 25 (nx h21) 0 fun v35 =>
 bls Try.prog h26 58 1 [(0, v35)] fun v36 h27 =>
 app Try.prog h27 58 58 v34 v36 fun v37 h28 =>
 st Try.prog h28 58 (nx h8) 0 v37 fun h29 =>
 out .normal [gv ws4 0] h29) (
 none)) (
 none)) (
 out (.exit 0) [gv ws0 0] h10)
noncomputable def f48 (rec : Rec) (k : Nat) (v0 : Value) (n0 : Int) (n1 : Int) (h0 : H) : Option (Value × H) :=
 bx h0 31 v0 fun h1 =>
 bx h1 3 (.int .i64 n0) fun h2 =>
 bx h2 3 (.int .i64 n1) fun h3 =>
 ld Try.prog h3 31 (nx h0) 0 fun v1 =>
 ld Try.prog h3 3 (nx h1) 0 fun v2 =>
 asI .i64 v2 fun n2 =>
 ld Try.prog h3 3 (nx h2) 0 fun v3 =>
 asI .i64 v3 fun n3 =>
 calls rec h3 82 [v1, (.int .i64 n2), (.int .i64 n3)] fun v4 h4 =>
 asB v4 fun q0 =>
 ifB (not q0) (
 some ((.tuple #[(.slice none 0 0), (.int .i64 2)]), h4)) (
 ld Try.prog h4 31 (nx h0) 0 fun v5 =>
 ld Try.prog h4 3 (nx h1) 0 fun v6 =>
 asI .i64 v6 fun n4 =>
 ld Try.prog h4 3 (nx h2) 0 fun v7 =>
 asI .i64 v7 fun n5 =>
 calls rec h4 83 [v5, (.int .i64 n4), (.int .i64 n5), (.int .i64 0)] fun v8 h5 =>
 ext v8 0 fun v9 =>
 ext v8 1 fun v10 =>
 asI .i64 v10 fun n6 =>
 al h5 3 [(.int .i64 0)] fun h6 =>
 st Try.prog h6 3 (nx h5) 0 (.int .i64 n6) fun h7 =>
 ld Try.prog h7 31 (nx h0) 0 fun v11 =>
 calls rec h7 84 [v11, v9] fun v12 h8 =>
 asI .i64 v12 fun n7 =>
 al h8 58 [(.slice none 0 0)] fun h9 =>
 lp k (f48_l1 rec k h0 h1 h2 h5 h8) [(.int .i64 n7)] h9 fun e2 _ h30 =>
 onE e2 0 (
 ld Try.prog h30 58 (nx h8) 0 fun v38 =>
 some ((.tuple #[v38, (.int .i64 0)]), h30)) (
 none))
theorem e48 (rec : Rec) (k : Nat) (v0 : Value) (n0 : Int) (n1 : Int) (h : H) : bodyT Try.prog E0 SC (XC Try.prog rec k) 48 (Value × H) [.opq v0, .int .i64 n0, .int .i64 n1] h (fun v h => some (v, h)) = f48 rec k v0 n0 n1 h := by kernel_rfl
theorem t48 {k : Nat} {v0 : Value} {n0 : Int} {n1 : Int} {h h1 : H} {v : Value} (hh : f48 rn k v0 n0 n1 h = some (v, h1)) : rn 48 #[v0, .int .i64 n0, .int .i64 n1] h = some (v, trunc Try.prog h h1 v) :=
  run_of_bodyT (args := [.opq v0, .int .i64 n0, .int .i64 n1]) rfl ((e48 _ _ _ _ _ _).trans hh)
theorem x48 {k : Nat} {v0 : Value} {n0 : Int} {n1 : Int} {h h1 : H} {v : Value} (hh : f48 rn k v0 n0 n1 h = some (v, h1)) (hp : plainO v = false) : rn 48 #[v0, .int .i64 n0, .int .i64 n1] h = some (v, h1) := by rw [t48 hh, trunc_not hp]
end Go.AM
end

section
namespace Go.AM
open Go.Proofs
/-- How many calls more must be left out. -/
def mcP (l : List Kl) (s t : Int) (gone : Nat) : Nat := GM 1000 t (maskL l (goneD gone)) (fun p => p == s)
theorem pairP_parts {n s t : Int} {l : List Kl} (h : pairP n l s t = true) : validP n l = true ∧ (0 ≤ s ∧ s < n) ∧ (0 ≤ t ∧ t < n) ∧ s ≠ t := by
  unfold pairP at h
  simp only [Bool.and_eq_true, decide_eq_true_eq, Bool.not_eq_true', beq_eq_false_iff_ne] at h
  exact ⟨h.1.1.1, h.1.1.2, h.1.2, h.2⟩
theorem mcP_le {l : List Kl} {s t : Int} (hst : s ≠ t) (gone : Nat) : mcP l s t gone ≤ l.length := by
  have := GM_len (K := 1000) (t := t) (cs := maskL l (goneD gone)) (X := fun p => p == s) (by simpa using Ne.symm hst)
  rwa [maskL_len] at this
theorem k82 {R : Type} {n s t : Int} {sl : Value} {l : List Kl} {h : H} (hs : SlR h 56 3 sl (l.map Kl.cells)) (K : Value → H → Option R) : calls rn h 82 [.agg #[iv n, sl], iv s, iv t] K = K (.bool (pairP n l s t)) h := by
  refine calls_eq (xs := [_, _, _]) ?_
  have x1 : Ext h (h.new (.row [iv n, sl] 31 true)) := .new _ _
  refine p82 (k := 0) (h1 := h.new (.row [iv n, sl] 31 true)) ?_ rfl x1
  have hb : ∀ (m o : Nat), (h.new (.row [iv n, sl] 31 true)).rd h.nx o m = if o + m ≤ 2 then some (([iv n, sl].drop o).take m) else none := fun m o => rd_of (blk_new_self _ _)
  unfold f82
  rw [bx_eq]
  simp only [nx_eq, d31, Value.cells]
  rw [hb, if_pos (by omega), Option.bind_some]
  show calls rn _ 71 [.agg #[iv n, sl]] _ = _
  rw [k71 (hs.ext x1), asB_bool]
  cases hv : validP n l with
  | false => simp only [ifB_false, pairP, hv]; rfl
  | true =>
    rw [ifB_true, hb, if_pos (by omega), Option.bind_some]
    show calls rn _ 72 [.agg #[iv n, sl], iv s] _ = _
    rw [k72, asB_bool]
    by_cases hsn : 0 ≤ s ∧ s < n
    · rw [decide_eq_true hsn, ifB_true, hb, if_pos (by omega), Option.bind_some]
      show calls rn _ 72 [.agg #[iv n, sl], iv t] _ = _
      rw [k72, asB_bool]
      by_cases htn : 0 ≤ t ∧ t < n
      · rw [decide_eq_true htn, ifB_true]
        simp only [pairP, hv, decide_eq_true hsn, decide_eq_true htn]
        rfl
      · rw [decide_eq_false htn, ifB_false]
        simp only [pairP, decide_eq_false htn]
        simp
    · rw [decide_eq_false hsn, ifB_false]
      simp only [pairP, decide_eq_false hsn]
      simp
/-- How much flows, in short. -/
theorem s83g {n : Nat} {l : List Kl} {gone : Nat} {sl : Value} {h : H} {s t : Int} (hs : SlR h 56 3 sl (l.map Kl.cells)) (hv : pairP n l s t = true) (hgn : gone < 2 ^ 62) :
    ∃ h' nb, rn 83 #[.agg #[iv n, sl], iv s, iv t, iv gone] h = some (.tuple #[pt nb 0, iv (mcP l s t gone)], h') ∧ Ext h h' := by
  obtain ⟨h1, h2, h3, h4⟩ := pairP_parts hv
  obtain ⟨h', lo, nb, rb, xb, nxs, r, k, e, nt, mf, x, _⟩ := s83 hs h1 hgn h2 h3 h4
  refine ⟨h', nb, ?_, x⟩
  rw [e, mf.gm]
  rfl
end Go.AM
end

section
namespace Go.AM
open Go.Proofs
variable {R : Type}
abbrev flatK (l : List Kl) : List Value := (l.map Kl.cells).flatten
theorem flatK_cons (c : Kl) (l : List Kl) : flatK (c :: l) = iv c.a :: iv c.b :: iv c.t :: flatK l := rfl
theorem flatK_len : ∀ l : List Kl, (flatK l).length = l.length * 3
  | [] => rfl
  | c :: l => by rw [flatK_cons]; simp only [List.length_cons, flatK_len l]; omega
theorem setAt_flat : ∀ (l : List Kl) (i : Nat) (x : Kl), i < l.length → setAt (flatK l) (i * 3) x.cells = flatK (l.set i x)
  | [], _, _, h => by simp at h
  | c :: l, 0, x, _ => rfl
  | c :: l, i + 1, x, h => by
    have := setAt_flat l i x (by simpa using h)
    rw [List.set_cons_succ, flatK_cons, flatK_cons, ← this]
    rw [show (i + 1) * 3 = i * 3 + 1 + 1 + 1 by omega]
    simp only [setAt, Kl.cells, List.set_cons_succ, Nat.add_succ, Nat.add_zero]
structure KA (h : H) (b : Nat) (v : Value) (l : List Kl) : Prop where
  val : ∃ c, v = .slice (some ⟨b, 0, none⟩) l.length c ∧ l.length ≤ capK c ∧ capK c < U
  lt : b < h.nx
  row : h.blk b = some (.row (flatK l) 56 true)
theorem KA.ext {h h' : H} {b : Nat} {v : Value} {l : List Kl} (a : KA h b v l) (x : Ext h h') : KA h' b v l := ⟨a.val, Nat.lt_of_lt_of_le a.lt x.nx, (x.blk _ a.lt).trans a.row⟩
theorem KA.wrc {h : H} {b : Nat} {v : Value} {l : List Kl} (a : KA h b v l) {i : Nat} (hi : i < l.length) (x : Kl) : AM.wrc 3 h b (i * 3) (.agg #[iv x.a, iv x.b, iv x.t]) = some (h.set b (.row (flatK (l.set i x)) 56 true)) := by
  unfold AM.wrc
  rw [a.row]
  simp only
  rw [if_pos ⟨rfl, by rw [flatK_len]; simp [Value.cells]; omega, by rfl⟩, ← setAt_flat l i x hi]
  rfl
end Go.AM
end

section
namespace Go.AM
/-- No two calls at one time share a person. -/
def apartK (c d : Kl) : Prop := c.t ≤ d.t ∧ (c.t = d.t → c.a ≠ d.a ∧ c.a ≠ d.b ∧ c.b ≠ d.a ∧ c.b ≠ d.b)
structure VP (n : Int) (l : List Kl) : Prop where
  n1 : 1 ≤ n
  n7 : n ≤ 7
  len : l.length ≤ 24
  ok : ∀ c ∈ l, okC n c = true
  two : l.Pairwise apartK
theorem clash_f {c d : Kl} : clash c d = false ↔ (d.t = c.t → d.a ≠ c.a ∧ d.a ≠ c.b ∧ d.b ≠ c.a ∧ d.b ≠ c.b) := by
  unfold clash Kl.has
  simp
  constructor
  · intro h e
    have := h e
    grind
  · intro h e
    have := h e
    grind
theorem vp_iff {n : Int} {l : List Kl} : validP n l = true ↔ VP n l := by
  constructor
  · intro h
    obtain ⟨h1, h2, h3, h4⟩ := validP_ok h
    refine ⟨h1, h2, by omega, fun c hc => ?_, ?_⟩
    · obtain ⟨i, hi⟩ := List.getElem?_of_mem hc
      have := h4 i c hi
      first | exact this | exact this.1
    · rw [List.pairwise_iff_getElem]
      intro i j hi hj hij
      obtain ⟨q1, q2⟩ := validP_sorted h hij (List.getElem?_eq_getElem hi) (List.getElem?_eq_getElem hj)
      exact ⟨q1, fun e => (clash_f.1 q2) e⟩
  · rintro ⟨h1, h2, h3, h4, h5⟩
    unfold validP
    simp only [Bool.and_eq_true, Bool.not_eq_true', decide_eq_false_iff_not, Int.not_lt, List.all_eq_true, List.mem_range]
    refine ⟨⟨⟨h1, h2⟩, by omega⟩, fun i hi => ?_⟩
    unfold rowOk
    rw [List.getElem?_eq_getElem hi]
    simp only [Bool.and_eq_true, Bool.not_eq_true']
    refine ⟨⟨h4 _ (List.getElem_mem hi), ?_⟩, ?_⟩
    · by_cases h0 : 0 < i
      · have h6 : i - 1 < l.length := by omega
        have := (List.pairwise_iff_getElem.1 h5 (i - 1) i h6 hi (by omega)).1
        simp [h6]
        omega
      · simp [h0]
    · rw [List.any_eq_false]
      intro d hd
      obtain ⟨j, hj⟩ := List.getElem?_of_mem hd
      have hji : j < i := by have := (List.getElem?_eq_some_iff.1 hj).1; rw [List.length_take] at this; omega
      rw [List.getElem?_take_of_lt hji] at hj
      obtain ⟨hj1, rfl⟩ := List.getElem?_eq_some_iff.1 hj
      have := (List.pairwise_iff_getElem.1 h5 j i hj1 hi hji).2
      rw [Bool.not_eq_true, clash_f]
      exact this
end Go.AM
end

section
namespace Go.AM
open Go.Proofs
/-- The set of a way's calls. -/
def maskN (w : List Int) : Nat := w.foldl (fun a i => a ||| 2 ^ i.toNat) 0
theorem maskN_go : ∀ (w : List Int) (a j : Nat), (w.foldl (fun a i => a ||| 2 ^ i.toNat) a).testBit j = (a.testBit j || w.any fun i => i.toNat == j) := by
  intro w
  induction w with
  | nil => intro a j; simp
  | cons i w ih =>
    intro a j
    rw [List.foldl_cons, ih, Nat.testBit_or, Nat.testBit_two_pow, List.any_cons, Bool.or_assoc]
    congr 2
theorem maskN_bit (w : List Int) (j : Nat) : (maskN w).testBit j = true ↔ ∃ i ∈ w, i.toNat = j := by
  unfold maskN
  rw [maskN_go]
  simp
theorem maskN_lt {w : List Int} {m : Nat} (h : ∀ i ∈ w, i.toNat < m) : maskN w < 2 ^ m := by
  refine Nat.lt_of_not_le fun hc => ?_
  obtain ⟨j, hj, hb⟩ := Nat.exists_ge_and_testBit_of_ge_two_pow hc
  obtain ⟨i, hi, e⟩ := (maskN_bit w j).1 hb
  have := h i hi
  omega
theorem oth_a {c : Kl} {p : Int} (h : c.a = p) : c.oth p = c.b := by unfold Kl.oth; omega
theorem oth_b {c : Kl} {p : Int} (h : c.b = p) : c.oth p = c.a := by unfold Kl.oth; omega
theorem two_get {l : List Kl} (h : l.Pairwise apartK) {i j : Nat} {c d : Kl} (hc : l[i]? = some c) (hd : l[j]? = some d) (hij : i < j) : apartK c d := by
  obtain ⟨hi, e1⟩ := List.getElem?_eq_some_iff.1 hc
  obtain ⟨hj, e2⟩ := List.getElem?_eq_some_iff.1 hd
  have := List.pairwise_iff_getElem.1 h i j hi hj hij
  rw [e1, e2] at this
  exact this
/-- A way in time is a walk. -/
theorem run_walk {n : Int} {l : List Kl} (v : VP n l) {d : Nat → Bool} : ∀ (w : List Int) (st st' : Int × Int × Int) (m : Nat), (∀ (k : Nat) (c : Kl), k < m → l[k]? = some c → c.t ≤ st.2.1) → runP l w st = some st' → (∀ i ∈ w, d i.toNat = false) →
    runW (maskL l d) (w.map Int.toNat) st.1 = some st'.1 ∧ Asc m (w.map Int.toNat) := by
  intro w
  induction w with
  | nil => intro st st' m _ h _; cases h; exact ⟨rfl, trivial⟩
  | cons i w ih =>
    intro st st' m hm h hd
    simp only [runP] at h
    split at h
    · rename_i hi
      split at h
      · cases h
      · rename_i c hc
        split at h
        · rename_i hg
          obtain ⟨g1, g2, g3, _⟩ := goes_spec v.n7 (v.ok c (List.mem_of_getElem? hc)) hg
          have hdi := hd i List.mem_cons_self
          obtain ⟨r1, r2⟩ := ih _ st' (i.toNat + 1) (fun k c' hk hc' => by
            simp only
            rcases Nat.lt_or_ge k i.toNat with h1 | h1
            · exact (two_get v.two hc' hc h1).1
            · have : k = i.toNat := by omega
              subst this
              rw [hc] at hc'; cases hc'; exact Int.le_refl _) h fun j hj => hd j (List.mem_cons_of_mem _ hj)
          simp only at r1
          refine ⟨?_, ?_, r2⟩
          · simp only [List.map_cons, runW, maskL_get, hc, Option.map_some, hdi, Bool.not_false]
            unfold Kl.has at g2
            simp only [Bool.or_eq_true, beq_iff_eq] at g2
            by_cases ha : c.a = st.1
            · rw [if_pos ha]; rw [oth_a ha] at r1; exact r1
            · rw [if_neg ha]
              have hb := g2.resolve_left ha
              rw [if_pos hb]; rw [oth_b hb] at r1; exact r1
          · rcases Nat.lt_or_ge i.toNat m with h1 | h1
            · have := hm _ _ h1 hc; omega
            · exact h1
        · cases h
    · cases h
theorem vis_nn {n : Int} {l : List Kl} (v : VP n l) {d : Nat → Bool} : ∀ (w : List Nat) (q x : Int), x ∈ visits (maskL l d) w q → 0 ≤ x := by
  intro w
  induction w with
  | nil => intro q x hx; cases hx
  | cons j w ihw =>
    intro q x hx
    simp only [visits, maskL_get] at hx
    cases hj : l[j]? with
    | none => rw [hj] at hx; cases hx
    | some c' =>
      rw [hj] at hx
      obtain ⟨o1, o2, _⟩ := okC_iff.1 (v.ok c' (List.mem_of_getElem? hj))
      simp only [Option.map_some] at hx
      cases hdj : d j with
      | true => rw [hdj] at hx; cases hx
      | false =>
        rw [hdj] at hx
        simp only [Bool.not_false] at hx
        split at hx
        · rcases List.mem_cons.1 hx with h | h
          · rw [h]; exact o2.1
          · exact ihw _ _ h
        · split at hx
          · rcases List.mem_cons.1 hx with h | h
            · rw [h]; exact o1.1
            · exact ihw _ _ h
          · cases hx
/-- A walk that meets nobody twice is a way in time. -/
theorem walk_run {n : Int} {l : List Kl} (v : VP n l) {d : Nat → Bool} {t : Int} : ∀ (w : List Nat) (p tm : Int) (K m : Nat), K < 2 ^ 7 → runW (maskL l d) w p = some t → Asc m w →
    (∀ (k : Nat) (c : Kl), m ≤ k → l[k]? = some c → c.has p = true → tm < c.t) → (∀ q ∈ visits (maskL l d) w p, K.testBit q.toNat = false) → (visits (maskL l d) w p).Nodup →
    ∃ st', runP l (w.map fun (i : Nat) => (i : Int)) (p, tm, (K : Int)) = some st' ∧ st'.1 = t := by
  intro w
  induction w with
  | nil => intro p tm K m _ h _ _ _ _; cases h; exact ⟨_, rfl, rfl⟩
  | cons i w ih =>
    intro p tm K m hK h ha hT hs hn
    simp only [runW, maskL_get] at h
    simp only [visits, maskL_get] at hs hn
    cases hc : l[i]? with
    | none => rw [hc] at h; cases h
    | some c =>
      rw [hc] at h hs hn
      simp only [Option.map_some] at h hs hn
      cases hd : d i with
      | true => rw [hd] at h; cases h
      | false =>
        rw [hd] at h hs hn
        simp only [Bool.not_false] at h hs hn
        have hil := (List.getElem?_eq_some_iff.1 hc).1
        have hok := v.ok c (List.mem_of_getElem? hc)
        obtain ⟨ok1, ok2, ok3, _⟩ := okC_iff.1 hok
        have n7 := v.n7
        have fin : ∀ q, c.has p = true → c.oth p = q → (0 ≤ q ∧ q < n) → c.has q = true → runW (maskL l d) w q = some t → (∀ x ∈ q :: visits (maskL l d) w q, K.testBit x.toNat = false) → (q :: visits (maskL l d) w q).Nodup → ∃ st', runP l ((i :: w).map fun (i : Nat) => (i : Int)) (p, tm, (K : Int)) = some st' ∧ st'.1 = t := by
          intro q hp hq hqn hqc hr hs hn
          obtain ⟨e1, e2⟩ := withP_nat (p := q) hK ⟨hqn.1, by omega⟩
          rw [List.nodup_cons] at hn
          obtain ⟨st', r1, r2⟩ := ih q c.t (K ||| 2 ^ q.toNat) (i + 1) e2 hr ha.2 (fun k c' hk hc' hq' => by
            have h2 := two_get v.two hc hc' (show i < k by omega)
            rcases Int.lt_or_eq_of_le h2.1 with h3 | h3
            · exact h3
            · exfalso
              obtain ⟨h4, h5, h6, h7⟩ := h2.2 h3
              unfold Kl.has at hqc hq'
              simp only [Bool.or_eq_true, beq_iff_eq] at hqc hq'
              rcases hqc with h | h <;> rcases hq' with h' | h'
              · exact h4 (by rw [h, h'])
              · exact h5 (by rw [h, h'])
              · exact h6 (by rw [h, h'])
              · exact h7 (by rw [h, h'])) (fun x hx => by
            rw [Nat.testBit_or, hs x (List.mem_cons_of_mem _ hx), Nat.testBit_two_pow]
            simp only [Bool.false_or, decide_eq_false_iff_not]
            intro e
            have hx0 : 0 ≤ x := by
              exact vis_nn v _ _ x hx
            have e2 : x = q := by omega
            rw [e2] at hx
            exact hn.1 hx) hn.2
          refine ⟨st', ?_, r2⟩
          simp only [List.map_cons, runP]
          rw [if_pos ⟨by omega, by omega⟩, Int.toNat_natCast, hc]
          simp only
          have hgo : goes c p tm (K : Int) = true := by
            unfold goes
            rw [hq, inP_nat hK ⟨hqn.1, by omega⟩, hs q List.mem_cons_self, hp]
            have := hT i c ha.1 hc hp
            simp; omega
          rw [if_pos hgo, hq, e1]
          exact r1
        have hasA : c.has c.a = true := by simp [Kl.has]
        have hasB : c.has c.b = true := by simp [Kl.has]
        by_cases h1 : c.a = p
        · rw [if_pos h1] at h hs hn
          exact fin c.b (by rw [← h1]; exact hasA) (oth_a h1) ok2 hasB h hs hn
        · rw [if_neg h1] at h hs hn
          by_cases h2 : c.b = p
          · rw [if_pos h2] at h hs hn
            exact fin c.a (by rw [← h2]; exact hasB) (oth_b h2) ok1 hasA h hs hn
          · rw [if_neg h2] at h; cases h
theorem way_walk {n s t : Int} {l : List Kl} (v : VP n l) (hs : 0 ≤ s ∧ s < n) (hst : s ≠ t) {d : Nat → Bool} {w : List Int} (hw : w ∈ allWays l s t) (hd : ∀ i ∈ w, d i.toNat = false) :
    runW (maskL l d) (w.map Int.toNat) s = some t ∧ Asc 0 (w.map Int.toNat) := by
  obtain ⟨st', h1, h2⟩ := (check_run (vp_iff.2 v) hs w).1 ((mem_all (vp_iff.2 v) hst w).1 hw)
  obtain ⟨r1, r2⟩ := run_walk v w (st0 s) st' 0 (fun k c hk => by omega) h1 hd
  rw [h2] at r1
  exact ⟨r1, r2⟩
/-- A walk holds a way in time. -/
theorem walk_ways {n s t : Int} {l : List Kl} (v : VP n l) (hs : 0 ≤ s ∧ s < n) (hst : s ≠ t) {d : Nat → Bool} {w : List Nat} (hw : runW (maskL l d) w s = some t) (ha : Asc 0 w) :
    ∃ w' ∈ allWays l s t, ∀ i ∈ w', 0 ≤ i ∧ i.toNat ∈ w := by
  have hne : ∀ (i : Nat) (c : Kl × Bool), (maskL l d)[i]? = some c → c.1.a ≠ c.1.b := by
    intro i c hc
    rw [maskL_get] at hc
    cases hi : l[i]? with
    | none => rw [hi] at hc; cases hc
    | some c' =>
      rw [hi] at hc
      cases hc
      exact (okC_iff.1 (v.ok c' (List.mem_of_getElem? hi))).2.2.1
  obtain ⟨u, h1, h2, h3, h4⟩ := walk_way hne w s 0 hw ha
  rw [List.nodup_cons] at h3
  have n7 := v.n7
  obtain ⟨k, rfl⟩ := Int.eq_ofNat_of_zero_le hs.1
  have hk : 2 ^ k < 2 ^ 7 := Nat.pow_lt_pow_right (by decide) (by omega)
  have vis0 : ∀ q ∈ visits (maskL l d) u (k : Int), 0 ≤ q := vis_nn v _ _
  obtain ⟨st', r1, r2⟩ := walk_run v u (k : Int) 0 (2 ^ k) 0 hk h1 h2 (fun i c _ hc _ => by
    have := (okC_iff.1 (v.ok c (List.mem_of_getElem? hc))).2.2.2.1
    omega) (fun q hq => by
    rw [Nat.testBit_two_pow, decide_eq_false_iff_not]
    intro e
    have := vis0 q hq
    have e2 : q = (k : Int) := by omega
    rw [e2] at hq
    exact h3.1 hq) h3.2
  refine ⟨u.map fun (i : Nat) => (i : Int), (mem_all (vp_iff.2 v) hst _).2 ((check_run (vp_iff.2 v) hs _).2 ⟨st', ?_, r2⟩), fun i hi => ?_⟩
  · unfold st0
    rw [shl1_nat (by omega)]
    exact r1
  · obtain ⟨j, hj, rfl⟩ := List.mem_map.1 hi
    exact ⟨by omega, by rw [Int.toNat_natCast]; exact h4 j hj⟩
theorem runW_mask {l : List Kl} {d d' : Nat → Bool} : ∀ (w : List Nat) (p : Int), (∀ i ∈ w, d' i = d i) → runW (maskL l d') w p = runW (maskL l d) w p := by
  intro w
  induction w with
  | nil => intro p _; rfl
  | cons i w ih =>
    intro p h
    have hi := h i List.mem_cons_self
    have ih' := fun p => ih p fun j hj => h j (List.mem_cons_of_mem _ hj)
    simp only [runW, maskL_get, hi, ih']
/-- A way that can be taken so that the others still are enough. -/
theorem pick_way {n s t : Int} {l : List Kl} (v : VP n l) (hs : 0 ≤ s ∧ s < n) (hst : s ≠ t) {r : Nat} (h : mcP l s t 0 = r + 1) : ∃ w ∈ allWays l s t, mcP l s t (maskN w) = r := by
  have hX : (fun p => p == s) t = false := by simpa using Ne.symm hst
  have l24 := v.len
  obtain ⟨ws, h1, h2⟩ := menger (K := 1000) (t := t) (maskL l (goneD 0)) (s := s) (k := r + 1) (Nat.le_of_eq h.symm)
  obtain ⟨w', hw', hsub⟩ := walk_ways v hs hst (h1 0 (by omega)).1 (h1 0 (by omega)).2
  refine ⟨w', hw', ?_⟩
  have lo : r ≤ mcP l s t (maskN w') := by
    refine GM_ge (ws := fun j => ws (j + 1)) (fun j hj => ⟨?_, (h1 (j + 1) (by omega)).2⟩) (fun j j' hj hj' hne => h2 _ _ (by omega) (by omega) (by omega)) (by have := mcP_le (l := l) hst 0; omega)
    rw [runW_mask (d := goneD 0)]
    · exact (h1 (j + 1) (by omega)).1
    · intro i hi
      have : goneD (maskN w') i = false := by
        rw [Bool.eq_false_iff]
        intro hb
        obtain ⟨x, hx, e⟩ := (maskN_bit w' i).1 hb
        have := (hsub x hx).2
        rw [e] at this
        exact h2 0 (j + 1) (by omega) (by omega) (by omega) i this hi
      rw [this]; simp
  have hi : mcP l s t (maskN w') + 1 ≤ mcP l s t 0 := by
    obtain ⟨q1, q2⟩ := way_walk v hs hst (d := goneD 0) hw' (fun i _ => by simp)
    refine GM_walk q1 q2 hst (by omega) fun i => ?_
    rw [maskN_bit]
    simp
  omega
/-- The calls of a set, with their places. -/
def partZ (l : List Kl) (left : Nat) : List (Kl × Nat) := l.zipIdx.filter fun q => left.testBit q.2
def partL (l : List Kl) (left : Nat) : List Kl := (partZ l left).map (·.1)
theorem partZ_get {l : List Kl} {left j : Nat} {q : Kl × Nat} (h : (partZ l left)[j]? = some q) : l[q.2]? = some q.1 ∧ left.testBit q.2 = true := by
  have h1 := List.mem_filter.1 (List.mem_of_getElem? h)
  have h2 := List.mem_zipIdx_iff_getElem?.1 h1.1
  exact ⟨h2, h1.2⟩
theorem partL_sub (l : List Kl) (left : Nat) : (partL l left).Sublist l := by
  unfold partL partZ
  have : (l.zipIdx.filter fun q => left.testBit q.2).Sublist l.zipIdx := List.filter_sublist
  have := this.map (·.1)
  rwa [List.zipIdx_map_fst] at this
theorem VP.part {n : Int} {l : List Kl} (v : VP n l) (left : Nat) : VP n (partL l left) :=
  ⟨v.n1, v.n7, Nat.le_trans (partL_sub l left).length_le v.len, fun c hc => v.ok c ((partL_sub l left).subset hc), v.two.sublist (partL_sub l left)⟩
/-- The places of a part's calls. -/
def placeZ (l : List Kl) (left : Nat) (i : Int) : Int := ((((partZ l left)[i.toNat]?).map (·.2)).getD 0 : Nat)
theorem placeZ_get {l : List Kl} {left : Nat} {i : Int} (h : i.toNat < (partL l left).length) : l[(placeZ l left i).toNat]? = (partL l left)[i.toNat]? ∧ left.testBit (placeZ l left i).toNat = true := by
  have hz : i.toNat < (partZ l left).length := by simpa [partL] using h
  obtain ⟨q, hq⟩ : ∃ q, (partZ l left)[i.toNat]? = some q := ⟨_, List.getElem?_eq_getElem hz⟩
  obtain ⟨h1, h2⟩ := partZ_get hq
  unfold placeZ partL
  rw [hq, List.getElem?_map, hq]
  simp only [Option.map_some, Option.getD_some, Int.toNat_natCast]
  exact ⟨h1, h2⟩
theorem GM_part {K : Nat} {t : Int} {l : List Kl} {left : Nat} {D : Nat → Bool} (hD : ∀ i, left.testBit i = false → D i = true) (X : Int → Bool) :
    GM K t (maskL l D) X = GM K t (maskL (partL l left) fun j => D (placeZ l left (j : Int)).toNat) X := by
  rw [← GM_filter (maskL l D), ← GM_filter (maskL (partL l left) _)]
  congr 1
  have e1 : maskL (partL l left) (fun j => D (placeZ l left (j : Int)).toNat) = (partZ l left).map fun q => (q.1, !D q.2) := by
    refine List.ext_getElem? fun j => ?_
    rw [maskL_get, List.getElem?_map]
    unfold partL placeZ
    rw [List.getElem?_map, Int.toNat_natCast]
    cases h : (partZ l left)[j]? <;> simp [h]
  rw [e1]
  unfold maskL partZ
  rw [List.filter_map, List.filter_map, List.filter_filter]
  congr 1
  refine List.filter_congr fun q _ => ?_
  simp only [Function.comp]
  cases hb : left.testBit q.2 with
  | true => simp
  | false => simp [hD q.2 hb]
theorem place_run {l : List Kl} {left : Nat} : ∀ (w : List Int) (st st' : Int × Int × Int), runP (partL l left) w st = some st' → runP l (w.map (placeZ l left)) st = some st' := by
  intro w
  induction w with
  | nil => intro st st' h; exact h
  | cons i w ih =>
    intro st st' h
    simp only [runP] at h
    split at h
    · rename_i hi
      have hg := placeZ_get (l := l) (left := left) (i := i) (by omega)
      split at h
      · cases h
      · rename_i c hc
        split at h
        · rename_i hgo
          rw [hc] at hg
          have hlt := (List.getElem?_eq_some_iff.1 hg.1).1
          simp only [List.map_cons, runP]
          have h0 : 0 ≤ placeZ l left i := by unfold placeZ; omega
          rw [if_pos ⟨h0, by omega⟩, hg.1]
          simp only
          rw [if_pos hgo]
          exact ih _ _ h
        · cases h
    · cases h
theorem place_way {n s t : Int} {l : List Kl} (v : VP n l) (hs : 0 ≤ s ∧ s < n) (hst : s ≠ t) {left : Nat} {w : List Int} (hw : w ∈ allWays (partL l left) s t) : w.map (placeZ l left) ∈ allWays l s t := by
  obtain ⟨st', h1, h2⟩ := (check_run (vp_iff.2 (v.part left)) hs w).1 ((mem_all (vp_iff.2 (v.part left)) hst w).1 hw)
  exact (mem_all (vp_iff.2 v) hst _).2 ((check_run (vp_iff.2 v) hs _).2 ⟨st', place_run w _ _ h1, h2⟩)
end Go.AM
end

section
namespace Go.AM
open Go.Proofs
/-- The first way without whose calls so many ways still are left. -/
def pickP (pl : List Kl) (s t : Int) (r : Nat) (σ : Option (List Int)) (w : List Int) : Option (List Int) :=
  match σ with
  | some b => some b
  | none => if mcP pl s t (maskN w) = r then some w else none
theorem pick_fold (pl : List Kl) (s t : Int) (r : Nat) : ∀ (ws : List (List Int)) (σ : Option (List Int)), (∀ b, σ = some b → mcP pl s t (maskN b) = r) →
    (∀ b, ws.foldl (pickP pl s t r) σ = some b → (σ = some b ∨ b ∈ ws) ∧ mcP pl s t (maskN b) = r) ∧ (ws.foldl (pickP pl s t r) σ = none → σ = none ∧ ∀ w ∈ ws, mcP pl s t (maskN w) ≠ r) := by
  intro ws
  induction ws with
  | nil => intro σ h; exact ⟨fun b hb => ⟨.inl hb, h b hb⟩, fun h => ⟨h, fun w hw => by cases hw⟩⟩
  | cons w ws ih =>
    intro σ h
    rw [List.foldl_cons]
    cases σ with
    | some b0 =>
      obtain ⟨h1, h2⟩ := ih (some b0) h
      refine ⟨fun b hb => ⟨?_, (h1 b hb).2⟩, fun hn => ?_⟩
      · exact (h1 b hb).1.imp id (List.mem_cons_of_mem _)
      · have := (h2 hn).1; cases this
    | none =>
      by_cases hr : mcP pl s t (maskN w) = r
      · have e : pickP pl s t r none w = some w := by simp [pickP, hr]
        rw [e]
        obtain ⟨h1, h2⟩ := ih (some w) (fun b hb => by cases hb; exact hr)
        refine ⟨fun b hb => ⟨.inr ?_, (h1 b hb).2⟩, fun hn => by have := (h2 hn).1; cases this⟩
        rcases (h1 b hb).1 with h | h
        · cases h; exact List.mem_cons_self
        · exact List.mem_cons_of_mem _ h
      · have e : pickP pl s t r none w = none := by simp [pickP, hr]
        rw [e]
        obtain ⟨h1, h2⟩ := ih none (fun b hb => by cases hb)
        refine ⟨fun b hb => ⟨.inr ?_, (h1 b hb).2⟩, fun hn => ⟨rfl, fun w' hw' => ?_⟩⟩
        · rcases (h1 b hb).1 with h | h
          · cases h
          · exact List.mem_cons_of_mem _ h
        · rcases List.mem_cons.1 hw' with rfl | hw'
          · exact hr
          · exact (h2 hn).2 w' hw'
/-- The way that is taken. -/
def takeW (pl : List Kl) (s t : Int) (r : Nat) : Option (List Int) := (allWays pl s t).foldl (pickP pl s t r) none
theorem take_some {n s t : Int} {pl : List Kl} (v : VP n pl) (hs : 0 ≤ s ∧ s < n) (hst : s ≠ t) {r : Nat} (h : mcP pl s t 0 = r + 1) : ∃ w, takeW pl s t r = some w ∧ w ∈ allWays pl s t ∧ mcP pl s t (maskN w) = r := by
  obtain ⟨h1, h2⟩ := pick_fold pl s t r (allWays pl s t) none (fun b hb => by cases hb)
  unfold takeW
  cases hw : (allWays pl s t).foldl (pickP pl s t r) none with
  | some w =>
    obtain ⟨h3, h4⟩ := h1 w hw
    rcases h3 with h3 | h3
    · cases h3
    · exact ⟨w, rfl, h3, h4⟩
  | none =>
    obtain ⟨w, h3, h4⟩ := pick_way v hs hst h
    exact absurd h4 ((h2 hw).2 w h3)
theorem l86 {k : Nat} {wv : Value} {w : List Int} {g : H} (hw : SlR g 3 1 wv (cellsI w)) (hr : ∀ x ∈ w, 0 ≤ x ∧ x < 24) (hk : w.length < k) : ∃ ws, lpGo (f86_l1 rn k wv w.length) k [iv 0, iv 0] g = some (.exit 0, ws, g) ∧ gv ws 0 = iv (maskN w) := by
  have hlen := hw.lt62
  rw [List.length_map] at hlen
  obtain ⟨ws', g', q1, _, rfl, rfl⟩ := lp_for (k := k) (l := w) (F := f86_l1 rn k wv w.length) (fun _ (x : Int) (a : Nat) => a ||| 2 ^ x.toNat)
    (fun i a ws g' => a < 2 ^ 24 ∧ g' = g ∧ ws = [iv a, iv i]) 0 (ws := [iv 0, iv 0]) (h := g) (s0 := 0) ⟨by decide, rfl, rfl⟩ hk
    (fun a ws g' hI => by
      obtain ⟨_, rfl, rfl⟩ := hI
      unfold f86_l1
      simp only [gv, List.getD_cons_zero, List.getD_cons_succ, asI_int]
      rw [lt_f (by omega), ifB_false]; rfl)
    (fun i x a ws g' hx hI => by
      obtain ⟨ha, rfl, rfl⟩ := hI
      have hi := (List.getElem?_eq_some_iff.1 hx).1
      obtain ⟨x0, x24⟩ := hr x (List.mem_of_getElem? hx)
      obtain ⟨m, rfl⟩ := Int.eq_ofNat_of_zero_le x0
      have p : (2 : Nat) ^ m < 2 ^ 24 := Nat.pow_lt_pow_right (by decide) (by omega)
      refine ⟨[iv (a ||| 2 ^ m : Nat), iv (i + 1 : Nat)], g', ?_, Nat.or_lt_two_pow ha (by simpa using p), rfl, by simp⟩
      unfold f86_l1
      simp only [gv, List.getD_cons_zero, List.getD_cons_succ, asI_int, asK_int]
      rw [lt_t (by omega), ifB_true]
      simp only [d3]
      rw [hw.c0 (by omega) (x := [iv (m : Int)]) (by simp [hx]) rfl, asI_int]
      unfold AM.nn
      rw [if_neg (by omega), shl1_nat (by omega), or_nat (by omega) (by omega), add64 (by omega) (by omega)]
      rfl)
  refine ⟨_, q1, ?_⟩
  rw [foldI_foldl]
  rfl
theorem nilv25' {v : Value} {b : Nat} (hb : blkOf v = some b) {R : Type} (K : Bool → Option R) : eqv Try.prog 25 v (.slice none 0 0) K = K false := by
  unfold eqv; rw [nilv25 hb]
theorem nilv25n {R : Type} (K : Bool → Option R) : eqv Try.prog 25 (.slice none 0 0) (.slice none 0 0) K = K true := by
  unfold eqv; rw [nil25]
theorem pick_cb {g6 : H} {wb pb sb tb cb ob : Nat} {n : Nat} {pl : List Kl} {slp ov : Value} {ol : List (List Value)} {s t : Int} {cnt : Nat} (hwb : wb < g6.nx)
    (hpb : pb < g6.nx ∧ pb ≠ wb ∧ g6.blk pb = some (.row [iv n, slp] 31 true)) (hsb : sb < g6.nx ∧ sb ≠ wb ∧ g6.blk sb = some (.row [iv s] 3 true)) (htb : tb < g6.nx ∧ tb ≠ wb ∧ g6.blk tb = some (.row [iv t] 3 true))
    (hcb : cb < g6.nx ∧ cb ≠ wb ∧ g6.blk cb = some (.row [iv cnt] 3 true)) (hob : ob < g6.nx ∧ ob ≠ wb ∧ g6.blk ob = some (.row [ov] 58 true)) (hov : SlR g6 25 1 ov ol) (hsl : SlR g6 56 3 slp (pl.map Kl.cells))
    (hslb : ∀ b, blkOf slp = some b → b < g6.nx ∧ b ≠ wb) (hp : pairP n pl s t = true) (hcnt : cnt < 100) (hol : ol.length < cnt) :
    Cb (.func (.func 86) #[] #[pt wb 0, pt pb 0, pt sb 0, pt tb 0, pt cb 0, pt ob 0]) g6.nx (fun b => b = wb) (okW pl) (fun σ D g => BestI g6 wb σ D g ∧ ∀ w, σ = some w → okW pl w) (pickP pl s t (cnt - ol.length - 1)) := by
  have hpl := (validP_ok (pairP_parts hp).1).2.2.1
  refine ⟨?_, ?_, ?_⟩
  · rintro σ D g g' ⟨⟨h1, h2, ov, h3, h4⟩, h5⟩ hn hlo hD
    refine ⟨⟨by omega, fun b hb hb' => (hlo b hb).trans (h2 b hb hb'), ov, (hlo wb hwb).trans h3, ?_⟩, h5⟩
    cases σ with
    | none => exact h4
    | some w =>
      obtain ⟨a1, q, a2, a3, a4, a5⟩ := h4
      exact ⟨a1, q, a2, a3, a4, a5.keep hn (hD q (by rw [a2]; simp))⟩
  · rintro σ D g ⟨⟨h1, h2, ov, h3, h4⟩, h5⟩ b hb
    cases σ with
    | none => rw [h4.2] at hb; simp at hb
    | some w =>
      obtain ⟨a1, q, a2, a3, a4, a5⟩ := h4
      rw [a2] at hb
      simp at hb
      subst hb
      exact ⟨a3, a5.lt⟩
  · rintro σ D g wv w ⟨⟨h1, h2, wv0, h3, h4⟩, h5⟩ hn hwv hw hdis hlow
    obtain ⟨hw0, hwl, hwr⟩ := hw
    cases σ with
    | some b0 =>
      obtain ⟨a1, q0, rfl, a3, a4, a5⟩ := h4
      refine ⟨g, [q0], x86 (k := 0) ?_ rfl, ⟨⟨h1, h2, wv0, h3, a1, q0, rfl, a3, a4, a5⟩, h5⟩, Nat.le_refl _, fun _ _ _ _ => rfl, fun b hb => .inl hb⟩
      show f86 rn 0 wv (pt wb 0) (pt pb 0) (pt sb 0) (pt tb 0) (pt cb 0) (pt ob 0) g = _
      unfold f86
      simp only [asP_ptr]
      rw [d25, cell_of h3]
      simp only [List.getElem?_cons_zero, Option.bind_some]
      rw [nilv25' a4]
      rfl
    | none =>
      obtain ⟨rfl, rfl⟩ := h4
      obtain ⟨ws1, q1, q2⟩ := l86 (k := 1000) hwv (fun x hx => by have := hwr x hx; omega) hwl
      have pbg : g.blk pb = some (.row [iv n, slp] 31 true) := (h2 _ hpb.1 hpb.2.1).trans hpb.2.2
      have sbg : g.blk sb = some (.row [iv s] 3 true) := (h2 _ hsb.1 hsb.2.1).trans hsb.2.2
      have tbg : g.blk tb = some (.row [iv t] 3 true) := (h2 _ htb.1 htb.2.1).trans htb.2.2
      have slg : SlR g 56 3 slp (pl.map Kl.cells) := slR_keep hsl h1 fun b hb => h2 b (hslb b hb).1 (hslb b hb).2
      obtain ⟨h3', nb, c83, x3⟩ := s83g (gone := maskN w) slg hp (Nat.lt_of_lt_of_le (maskN_lt (m := 24) fun i hi => by have := hwr i hi; omega) (by decide))
      have hm := mcP_le (l := pl) (pairP_parts hp).2.2.2 (maskN w)
      have cbg : h3'.blk cb = some (.row [iv cnt] 3 true) := by rw [x3.blk _ (by omega)]; exact (h2 _ hcb.1 hcb.2.1).trans hcb.2.2
      have obg : h3'.blk ob = some (.row [ov] 58 true) := by rw [x3.blk _ (by omega)]; exact (h2 _ hob.1 hob.2.1).trans hob.2.2
      have wbg : h3'.blk wb = some (.row [.slice none 0 0] 25 true) := by rw [x3.blk _ (by omega)]; exact h3
      have hlen := hwv.len (R := Value × H)
      have start : f86 rn 1000 wv (pt wb 0) (pt pb 0) (pt sb 0) (pt tb 0) (pt cb 0) (pt ob 0) g = if mcP pl s t (maskN w) = cnt - ol.length - 1 then
          (calls rn h3' 75 [wv] fun v17 h4 => st Try.prog h4 25 wb 0 v17 fun h5 => some (undef, h5)) else some (undef, h3') := by
        unfold f86
        simp only [asP_ptr]
        rw [d25, cell_of h3]
        simp only [List.getElem?_cons_zero, Option.bind_some]
        rw [nilv25n, Bool.not_true, ifB_false, hwv.len, List.length_map, lp_eq q1, onE_exit, if_pos rfl, q2]
        rw [d31, rd_all (n := 2) pbg rfl, Option.bind_some]
        simp only [d3]
        rw [cell_of sbg, cell_of tbg]
        simp only [List.getElem?_cons_zero, Option.bind_some, asI_int]
        refine (calls_eq (xs := [_, _, _, _]) c83).trans ?_
        rw [ext20, ext21, asI_int, cell_of cbg]
        simp only [List.getElem?_cons_zero, Option.bind_some, asI_int]
        rw [d58, cell_of obg]
        simp only [List.getElem?_cons_zero, Option.bind_some]
        have hov' : ∀ {T : Type} (K : Int → Option T), len ov K = K ol.length := fun K => hov.len K
        rw [hov', sub64 (a := (cnt : Int)) (b := (ol.length : Int)) (by omega) (by omega), sub64 (by omega) (by omega)]
        by_cases e : mcP pl s t (maskN w) = cnt - ol.length - 1
        · rw [eq_t (by omega), ifB_true, if_pos e]
        · rw [eq_f (by omega), ifB_false, if_neg e]
      by_cases e : mcP pl s t (maskN w) = cnt - ol.length - 1
      · obtain ⟨v', h4, q, e75, x4, b1, b2, b3⟩ := s75a (hwv.ext x3) (by omega) hw0
        have wbg4 : h4.blk wb = some (.row [.slice none 0 0] 25 true) := (x4.blk wb (by have := x3.nx; omega)).trans wbg
        obtain ⟨cv, hcv, _⟩ := b3.val
        have hst : wrc 1 h4 wb 0 v' = some (h4.set wb (.row [v'] 25 true)) := by rw [wrc_one wbg4 (by rw [hcv]; rfl) (by rw [hcv]; rfl) (by simp)]; rfl
        have hx := x3.nx
        have hx4 := x4.nx
        refine ⟨h4.set wb (.row [v'] 25 true), [q], x86 (k := 1000) ?_ rfl, ⟨⟨by rw [nx_set]; omega, fun b hb hb' => by rw [blk_set_ne _ _ _ hb', x4.blk b (by omega), x3.blk b (by omega)]; exact h2 b hb hb', v', ?_⟩, ?_⟩, by rw [nx_set]; omega,
          fun b h1 h2 _ => by rw [blk_set_ne _ _ _ h2, x4.blk b (by omega), x3.blk b h1], fun b hb => by simp at hb; omega⟩
        · show f86 rn 1000 wv (pt wb 0) (pt pb 0) (pt sb 0) (pt tb 0) (pt cb 0) (pt ob 0) g = _
          rw [start, if_pos e]
          refine (calls_eq (xs := [_]) e75).trans ?_
          rw [w25, hst]
          rfl
        · simp only [pickP, if_pos e]
          exact ⟨blk_set_self _ _ _, hw0, q, rfl, by omega, b2, b3.keep (Nat.le_refl _) (blk_set_ne _ _ _ (by omega))⟩
        · intro w' hw'
          simp only [pickP, if_pos e] at hw'
          cases hw'
          exact ⟨hw0, hwl, hwr⟩
      · have hx := x3.nx
        refine ⟨h3', [], x86 (k := 1000) ?_ rfl, ⟨⟨by omega, fun b hb hb' => by rw [x3.blk b (by omega)]; exact h2 b hb hb', .slice none 0 0, ?_⟩, ?_⟩, hx, fun b h1 _ _ => x3.blk b h1, fun b hb => by simp at hb⟩
        · show f86 rn 1000 wv (pt wb 0) (pt pb 0) (pt sb 0) (pt tb 0) (pt cb 0) (pt ob 0) g = _
          rw [start, if_neg e]
        · simp only [pickP, if_neg e]
          exact ⟨wbg, trivial, trivial⟩
        · intro w' hw'
          simp only [pickP, if_neg e] at hw'
          cases hw'
end Go.AM
end

section
namespace Go.AM
open Go.Proofs
variable {k : Nat} {R : Type}
attribute [local simp] nx_eq nx_new nx_set blk_new blk_set asI_int asK_int asB_bool asP_ptr al_eq bx_eq len_slice onE_exit onE_ret onR_ret Value.cells d3 d29 d31 d56 d24 d59 d22 d25 w3 cell_new cell_set rd_new rd_set off eq lt le ifB gv out eqF1 eqF2 eqF3 eqF4 eqF5 eqF6 eqF7 eqF8 ext20 ext21 k22
theorem app22 : okApp Try.prog 22 59 3 = true := by kernel_rfl
theorem kbld24 (n : Int) (K : Value → Option R) : bld Try.prog 24 [(0, .int .i64 n)] K = K (.agg #[.int .i64 n, .slice none 0 0]) := bld_some (by kernel_rfl)
theorem bls22 (c : Kl) (h : H) : buildSlice Try.prog 22 1 [(0, .agg #[.int .i64 c.a, .int .i64 c.b, .int .i64 c.t])] h = some (.slice (some ⟨h.nx, 0, none⟩) 1 1, h.new (.row c.cells 59 true)) := by kernel_rfl
attribute [local simp] kbld24
end Go.AM
end

section
namespace Go.AM
open Go.Proofs
variable {k : Nat} {R : Type}
theorem SlR.keepT {h h' : H} {e : TypeId} {s : Nat} {v : Value} {l : List (List Value)} (a : SlR h e s v l) (hn : h.nx ≤ h'.nx) (hb : ∀ b cs o, b < h.nx → h.blk b = some (.row cs e o) → h'.blk b = h.blk b) : SlR h' e s v l := by
  cases a with
  | nil => exact .nil
  | at_ h1 h2 h3 h4 h5 h6 => exact .at_ (Nat.lt_of_lt_of_le h1 hn) ((hb _ _ _ h1 h2).trans h2) h3 h4 h5 h6
end Go.AM
end

section
namespace Go.AM
open Go.Proofs
theorem partZ_snoc {l : List Kl} {left i : Nat} {c : Kl} (hc : l[i]? = some c) : partZ (l.take (i + 1)) left = partZ (l.take i) left ++ if left.testBit i then [(c, i)] else [] := by
  have hi := (List.getElem?_eq_some_iff.1 hc).1
  unfold partZ
  rw [List.take_add_one, hc, Option.toList_some, List.zipIdx_append, List.filter_append, List.length_take, Nat.min_eq_left (by omega), Nat.zero_add]
  congr 1
  cases h : left.testBit i <;> simp [h]
def idxZ (l : List Kl) (left : Nat) : List Int := (partZ l left).map fun q => (q.2 : Int)
theorem partZ_len (l : List Kl) (left : Nat) : (partZ l left).length ≤ l.length := by
  unfold partZ
  have := List.length_filter_le (fun q : Kl × Nat => left.testBit q.2) l.zipIdx
  rwa [List.length_zipIdx] at this
theorem l482 {h10 h12 : H} {n : Int} {sl : Value} {ws0 : List Value} {l : List Kl} {left : Nat} (hleft : left < 2 ^ 24) (hw0 : gv ws0 0 = iv left) (hlt : h10.nx < h12.nx) (hb : h12.blk h10.nx = some (.row [iv n, .slice none 0 0] 31 true)) (hs : SlR h12 56 3 sl (l.map Kl.cells)) (hl24 : l.length ≤ 24) (k : Nat) (hk : l.length < k) :
    ∃ ix g sv, lpGo (f48_l2 rn k ws0 h10 sl l.length) k [.slice none 0 0, iv 0] h12 = some (.exit 2, [ix, iv l.length], g) ∧ h12.nx ≤ g.nx ∧ (∀ b, b < h12.nx → b ≠ h10.nx → g.blk b = h12.blk b) ∧ g.blk h10.nx = some (.row [iv n, sv] 31 true) ∧
      AqR h12.nx g 56 3 sv ((partL l left).map Kl.cells) ∧ AqR h12.nx g 3 1 ix (cellsI (idxZ l left)) := by
  obtain ⟨ws', g', hl, hn, hk', _, sv, ix, hsv, hap, hix, rfl⟩ := lp_for (F := f48_l2 rn k ws0 h10 sl l.length) (k := k) (l := l) (fun _ _ (_ : Unit) => ())
    (fun i _ ws g => h12.nx ≤ g.nx ∧ (∀ b, b < h12.nx → b ≠ h10.nx → g.blk b = h12.blk b) ∧ True ∧ ∃ sv ix, g.blk h10.nx = some (.row [iv n, sv] 31 true) ∧ AqR h12.nx g 56 3 sv ((partL (l.take i) left).map Kl.cells) ∧ AqR h12.nx g 3 1 ix (cellsI (idxZ (l.take i) left)) ∧ ws = [ix, iv i]) 2 (ws := [.slice none 0 0, iv 0]) (h := h12) (s0 := ())
    ⟨Nat.le_refl _, fun _ _ _ => rfl, trivial, _, _, hb, .nil, .nil, rfl⟩ hk
    (by
      rintro _ ws g ⟨_, _, _, sv, ix, _, _, _, rfl⟩
      unfold f48_l2
      rw [show gv [ix, iv (l.length : Int)] 1 = iv (l.length : Int) from rfl, asI_int, lt_f (by omega), ifB_false]
      rfl)
    (by
      rintro i c _ ws g hc ⟨hn, hk, _, sv, ix, hg2, hap, hix, rfl⟩
      have hil := (List.getElem?_eq_some_iff.1 hc).1
      have kt : ∀ (e : TypeId), e ≠ 31 → ∀ b cs o, b < h12.nx → h12.blk b = some (.row cs e o) → g.blk b = h12.blk b := fun e he b cs o hbl hr => hk b hbl fun e' => by
        rw [e', hb] at hr
        simp at hr
        exact he hr.2.1.symm
      have hs' := hs.keepT hn (kt 56 (by decide))
      have y7 := (Ext.refl g).fresh 56 [iv 0, iv 0, iv 0] c.cells
      have hcb := blk_fresh g 56 [iv 0, iv 0, iv 0] c.cells
      have n7 : (g.fresh 56 [iv 0, iv 0, iv 0] c.cells).nx = g.nx + 1 := rfl
      have hadd : add .i64 (i : Int) 1 = (i : Int) + 1 := add64 (by omega) (by omega)
      have hsnoc := partZ_snoc (left := left) hc
      have hpl := partZ_len (l.take i) left
      rw [List.length_take] at hpl
      unfold f48_l2
      rw [show gv [ix, iv i] 1 = iv i from rfl, show gv [ix, iv i] 0 = ix from rfl, asI_int, lt_t (by omega), ifB_true, asK_int, hs'.ldA ag56 sz56 (by omega) (x := c.cells) (by simp [hc])]
      rw [al_st (zs := [iv 0, iv 0, iv 0]) (xs := c.cells) sz56 rfl rfl, hw0, asI_int, asK_int]
      unfold AM.nn
      rw [if_neg (by omega), bit_nat (by omega) (by omega)]
      have hlt9 : h10.nx < g.nx := by omega
      have g2 := (y7.blk h10.nx (by omega)).trans hg2
      have a7 := hap.ext y7
      have i7 := hix.ext y7
      generalize g.fresh 56 [iv 0, iv 0, iv 0] c.cells = h7 at *
      have k7 : ∀ b, b < h12.nx → b ≠ h10.nx → h7.blk b = h12.blk b := fun b hbl hne => (y7.blk b (by omega)).trans (hk b hbl hne)
      by_cases hf : left.testBit i = true
      · rw [hf, if_pos rfl, eq_t rfl, ifB_true]
        rw [hf, if_pos rfl] at hsnoc
        obtain ⟨v', h8, e9, a9, n9, k9, b9, hb9, hb9'⟩ := a7.push app29 app29 (bls29 c) rfl rfl (by simp [partL]; omega) (by omega)
        have nosv : ∀ b, b < h12.nx → AM.blkOf sv ≠ some b := fun b hbl e => by have := (a7.blkOf e).1; omega
        have g2' := (k9 h10.nx (by omega) (nosv _ hlt)).trans g2
        have hst : wrc 1 h8 h10.nx 1 v' = some (h8.set h10.nx (.row [iv n, v'] 31 true)) := by rw [wrc_one g2' a9.cells.1 a9.cells.2 (by simp)]; rfl
        have i8 : AqR h12.nx h8 3 1 ix (cellsI (idxZ (l.take i) left)) := i7.keep n9 fun b hbx => k9 b (i7.blkOf hbx).2.1 fun e => by
          have h1 := (a7.blkOf e).2.2
          have h2 := (i7.blkOf hbx).2.2
          rw [h1] at h2
          simp at h2
        have x8 : ∀ b, (h8.set h10.nx (.row [iv n, v'] 31 true)).blk b = if b = h10.nx then some (.row [iv n, v'] 31 true) else h8.blk b := fun b => rfl
        have i9 : AqR h12.nx (h8.set h10.nx (.row [iv n, v'] 31 true)) 3 1 ix (cellsI (idxZ (l.take i) left)) := i8.keep (Nat.le_refl _) fun b hbx => blk_set_ne _ _ _ (by have := (i8.blkOf hbx).1; omega)
        have a10 : AqR h12.nx (h8.set h10.nx (.row [iv n, v'] 31 true)) 56 3 v' ((partL (l.take i) left).map Kl.cells ++ [c.cells]) := a9.keep (Nat.le_refl _) fun b hbx => blk_set_ne _ _ _ (by have := (a9.blkOf hbx).1; omega)
        obtain ⟨x', h20, e20, a20, n20, k20, b20, hb20, hb20'⟩ := i9.push app25 app25 (bls25 (i : Int)) rfl rfl (by simp [idxZ]; omega) (by rw [nx_set]; omega)
        rw [nx_set] at n20 k20
        have noix : ∀ b, b < h12.nx → AM.blkOf ix ≠ some b := fun b hbl e => by have := (i9.blkOf e).1; omega
        have a20' : AqR h12.nx h20 56 3 v' ((partL (l.take i) left).map Kl.cells ++ [c.cells]) := a10.keep (by rw [nx_set]; exact n20) fun b hbx => k20 b (by have := (a10.blkOf hbx).2.1; rwa [nx_set] at this) fun e => by
          have h1 := (i9.blkOf e).2.2
          have h2 := (a10.blkOf hbx).2.2
          rw [h1] at h2
          simp at h2
        refine ⟨[x', iv ((i : Int) + 1)], h20, ?_, by omega, fun b hbl hne => ?_, trivial, v', x', ?_, ?_, ?_, rfl⟩
        · rw [d29, nx_eq, nx_eq, cell_of g2, show ([iv n, sv] : List Value)[off 0 1]? = some sv from rfl, Option.bind_some, d56, rd_all (n := 3) hcb rfl, Option.bind_some, show c.cells.toArray = #[.int .i64 c.a, .int .i64 c.b, .int .i64 c.t] from rfl, e9, w29, show off 0 1 = 1 from rfl, hst, Option.bind_some]
          refine (e20 _).trans ?_
          rw [asI_int, hadd]
          rfl
        · rw [k20 b (by omega) (noix b hbl), blk_set_ne _ _ _ hne, k9 b (by omega) (nosv b hbl)]
          exact k7 b hbl hne
        · rw [k20 _ (by omega) (noix _ hlt)]
          exact blk_set_self _ _ _
        · unfold partL
          rw [hsnoc, List.map_append, List.map_append]
          exact a20'
        · unfold idxZ
          rw [hsnoc, List.map_append, cellsI, List.map_append]
          exact a20
      · have hf' : left.testBit i = false := by simpa using hf
        rw [hf', if_neg (by simp), eq_f (by decide), ifB_false]
        rw [hf', if_neg (by simp), List.append_nil] at hsnoc
        refine ⟨[ix, iv ((i : Int) + 1)], h7, ?_, by omega, k7, trivial, sv, ix, g2, ?_, ?_, rfl⟩
        · rw [asI_int, hadd]; rfl
        · unfold partL; rw [hsnoc]; exact a7
        · unfold idxZ; rw [hsnoc]; exact i7)
  rw [List.take_length] at hap hix
  exact ⟨ix, g', sv, hl, hn, hk', hsv, hap, hix⟩
def leftS (left : Nat) (u : List Int) : Nat := u.foldl (fun a i => without a (2 ^ i.toNat)) left
theorem leftS_bit : ∀ (u : List Int) (left j : Nat), (leftS left u).testBit j = (left.testBit j && !u.any fun i => i.toNat == j) := by
  intro u
  induction u with
  | nil => intro left j; simp [leftS]
  | cons i u ih =>
    intro left j
    have := ih (without left (2 ^ i.toNat)) j
    unfold leftS at this ⊢
    rw [List.foldl_cons, this, testBit_without, Nat.testBit_two_pow, List.any_cons]
    by_cases h : i.toNat = j
    · simp [h]
    · have h' : (i.toNat == j) = false := by simpa using h
      simp [h, h']
theorem leftS_lt {left : Nat} (u : List Int) (h : left < 2 ^ 24) : leftS left u < 2 ^ 24 := by
  unfold leftS
  induction u generalizing left with
  | nil => exact h
  | cons i u ih => exact ih (without_le _ _ h)
theorem placeZ_idx {l : List Kl} {left : Nat} {x : Int} (hx : x.toNat < (partZ l left).length) : (idxZ l left)[x.toNat]? = some (placeZ l left x) := by
  unfold idxZ placeZ
  rw [List.getElem?_map, List.getElem?_eq_getElem hx]
  rfl
theorem l483 {h21 h23 : H} {ix wv : Value} {ws2 : List Value} {l : List Kl} {left q : Nat} {w : List Int} (hl24 : l.length ≤ 24) (hleft : left < 2 ^ 24) (hw2 : gv ws2 0 = ix) (hwb : h23.blk h21.nx = some (.row [wv] 25 true)) (hqb : q ≠ h21.nx)
    (hix : SlR h23 3 1 ix (cellsI (idxZ l left))) (hixq : blkOf ix ≠ some q) (hia : IA h23 q wv w) (hwr : ∀ x ∈ w, 0 ≤ x ∧ x < (partZ l left).length) (k : Nat) (hk : w.length < k) :
    ∃ g, lpGo (f48_l3 rn k ws2 h21 wv w.length) k [iv left, iv 0] h23 = some (.exit 4, [iv (leftS left (w.map (placeZ l left))), iv w.length], g) ∧ g.nx = h23.nx ∧ (∀ b, b ≠ q → g.blk b = h23.blk b) ∧ IA g q wv (w.map (placeZ l left)) := by
  have hlen := hia.slR.lt62
  rw [List.length_map] at hlen
  have hpz := partZ_len l left
  obtain ⟨ws', g', q1, hn, hf, ha, hl, rfl⟩ := lp_for (k := k) (l := w) (F := f48_l3 rn k ws2 h21 wv w.length) (fun _ x (a : Nat) => without a (2 ^ (placeZ l left x).toNat))
    (fun i a ws g => g.nx = h23.nx ∧ (∀ b, b ≠ q → g.blk b = h23.blk b) ∧ IA g q wv ((w.take i).map (placeZ l left) ++ w.drop i) ∧ a < 2 ^ 24 ∧ ws = [iv a, iv i]) 4 (ws := [iv left, iv 0]) (h := h23) (s0 := left)
    ⟨rfl, fun _ _ => rfl, by simpa using hia, hleft, rfl⟩ hk
    (fun a ws g hI => by
      obtain ⟨_, _, _, _, rfl⟩ := hI
      unfold f48_l3
      simp only [gv, List.getD_cons_zero, List.getD_cons_succ, asI_int]
      rw [lt_f (by omega), ifB_false]; rfl)
    (fun i x a ws g hx hI => by
      obtain ⟨hn, hf, hia, hal, rfl⟩ := hI
      have hi := (List.getElem?_eq_some_iff.1 hx).1
      obtain ⟨x0, x1⟩ := hwr x (List.mem_of_getElem? hx)
      have hxz : x.toNat < (partZ l left).length := by omega
      have hpx := placeZ_idx hxz
      have hp0 : 0 ≤ placeZ l left x := by unfold placeZ; omega
      have hp24 : (placeZ l left x).toNat < 24 := by
        have hg := placeZ_get (l := l) (left := left) (i := x) (by simpa [partL] using hxz)
        have h3 : (partL l left)[x.toNat]? ≠ none := by
          intro e
          rw [List.getElem?_eq_none_iff] at e
          simp [partL] at e; omega
        rcases Nat.lt_or_ge (placeZ l left x).toNat l.length with h4 | h4
        · omega
        · rw [List.getElem?_eq_none h4] at hg
          exact absurd hg.1.symm h3
      have hwg : g.blk h21.nx = some (.row [wv] 25 true) := (hf _ (Ne.symm hqb)).trans hwb
      have ixg : SlR g 3 1 ix (cellsI (idxZ l left)) := slR_keep hix (by omega) fun b hb => hf b fun e => hixq (by rw [← e]; exact hb)
      have hL : ((w.take i).map (placeZ l left) ++ w.drop i).length = w.length := by simp; omega
      have hcur : ((w.take i).map (placeZ l left) ++ w.drop i)[(i : Int).toNat]? = some x := by
        rw [Int.toNat_natCast, List.getElem?_append_right (by simp; omega)]
        simp only [List.length_map, List.length_take, Nat.min_eq_left (Nat.le_of_lt hi), Nat.sub_self, List.getElem?_drop, Nat.add_zero]
        exact hx
      have ia2 := hia.set i (placeZ l left x)
      have hset : ((w.take i).map (placeZ l left) ++ w.drop i).set i (placeZ l left x) = (w.take (i + 1)).map (placeZ l left) ++ w.drop (i + 1) := by
        rw [List.set_append_right _ _ (by simp; omega)]
        simp only [List.length_map, List.length_take, Nat.min_eq_left (Nat.le_of_lt hi), Nat.sub_self]
        rw [List.drop_eq_getElem_cons hi, List.set_cons_zero, List.take_add_one, hx]
        simp
      rw [hset] at ia2
      have ixg2 : SlR (g.set q (.row (((w.take (i + 1)).map (placeZ l left) ++ w.drop (i + 1)).map iv) 3 true)) 3 1 ix (cellsI (idxZ l left)) := slR_keep ixg (Nat.le_refl _) fun b hb => blk_set_ne _ _ _ fun e => hixq (by rw [← e]; exact hb)
      refine ⟨[iv (without a (2 ^ (placeZ l left x).toNat)), iv (i + 1 : Nat)], g.set q (.row (((w.take (i + 1)).map (placeZ l left) ++ w.drop (i + 1)).map iv) 3 true), ?_, by rw [nx_set]; exact hn, fun b hb => by rw [blk_set_ne _ _ _ hb]; exact hf b hb, ia2, without_le _ _ hal, rfl⟩
      have p24 : (2 : Nat) ^ (placeZ l left x).toNat < 2 ^ 24 := Nat.pow_lt_pow_right (by decide) hp24
      obtain ⟨pn, hpn⟩ := Int.eq_ofNat_of_zero_le hp0
      unfold f48_l3
      simp only [gv, List.getD_cons_zero, List.getD_cons_succ, asI_int, asK_int]
      rw [lt_t (by omega), ifB_true]
      simp only [d3, d25, w3]
      rw [hia.get (by omega) hcur, asI_int, nx_eq, cell_of hwg]
      simp only [List.getElem?_cons_zero, Option.bind_some]
      have hw2' : ws2.getD 0 undef = ix := hw2
      rw [hw2', ixg.c0 (by omega) (x := [iv (placeZ l left x)]) (by rw [List.getElem?_map, hpx]; rfl) rfl, asI_int]
      rw [hia.put (by omega) (by rw [hL]; omega), Int.toNat_natCast, hia.wrc (by rw [hL]; exact hi), Option.bind_some, hset]
      rw [ixg2.c0 (by omega) (x := [iv (placeZ l left x)]) (by rw [List.getElem?_map, hpx]; rfl) rfl, asI_int]
      unfold AM.nn
      rw [if_neg (by omega)]
      rw [hpn, Int.toNat_natCast] at hp24 p24 ⊢
      rw [shl1_nat (by omega), andNot_nat (by omega) (by omega), add64 (by omega) (by omega)]
      rfl)
  rw [foldI_foldl] at q1
  refine ⟨g', ?_, hn, hf, by simpa using ha⟩
  rw [q1]
  unfold leftS
  rw [List.foldl_map]
end Go.AM
end

section
namespace Go.AM
open Go.Proofs
/-- What has been taken, and what is left. -/
structure ApI (l : List Kl) (s t : Int) (left : Nat) (W : List (List Int)) : Prop where
  lt : left < 2 ^ 24
  gm : GM 1000 t (maskL l fun i => !left.testBit i) (fun p => p == s) + W.length = mcP l s t 0
  ways : ∀ w ∈ W, w ∈ allWays l s t ∧ ∀ i ∈ w, left.testBit i.toNat = false
  dis : W.Pairwise fun w u => ∀ i ∈ w, i ∉ u
/-- Ways apart, as_ many as_ can be. -/
structure AprR (l : List Kl) (s t : Int) (W : List (List Int)) : Prop where
  len : W.length = mcP l s t 0
  ways : ∀ w ∈ W, w ∈ allWays l s t
  dis : W.Pairwise fun w u => ∀ i ∈ w, i ∉ u
theorem part_mc {l : List Kl} {s t : Int} {left : Nat} : mcP (partL l left) s t 0 = GM 1000 t (maskL l fun i => !left.testBit i) (fun p => p == s) := by
  rw [GM_part (left := left) (D := fun i => !left.testBit i) (fun i h => by simp [h])]
  unfold mcP
  congr 1
  refine List.ext_getElem? fun j => ?_
  rw [maskL_get, maskL_get]
  cases hj : (partL l left)[j]? with
  | none => rfl
  | some c =>
    have := (placeZ_get (l := l) (left := left) (i := (j : Int)) (by rw [Int.toNat_natCast]; exact (List.getElem?_eq_some_iff.1 hj).1)).2
    simp [this]
theorem ApI.step {n s t : Int} {l : List Kl} (v : VP n l) (hs : 0 ≤ s ∧ s < n) (hst : s ≠ t) {left : Nat} {W : List (List Int)} (a : ApI l s t left W) {w : List Int} (hw : w ∈ allWays (partL l left) s t) (hm : mcP (partL l left) s t (maskN w) + 1 = mcP l s t 0 - W.length) (hlt : W.length < mcP l s t 0) :
    ApI l s t (leftS left (w.map (placeZ l left))) (W ++ [w.map (placeZ l left)]) := by
  have hok := allWays_ok w hw
  have hin : ∀ i ∈ w, i.toNat < (partL l left).length := fun i hi => by have := hok.2.2 i hi; omega
  have bit : ∀ j, (leftS left (w.map (placeZ l left))).testBit j = (left.testBit j && !(w.any fun i => (placeZ l left i).toNat == j)) := fun j => by
    rw [leftS_bit, List.any_map]; rfl
  refine ⟨leftS_lt _ a.lt, ?_, ?_, ?_⟩
  · have e : GM 1000 t (maskL l fun i => !(leftS left (w.map (placeZ l left))).testBit i) (fun p => p == s) = mcP (partL l left) s t (maskN w) := by
      rw [GM_part (left := left) (D := fun i => !(leftS left (w.map (placeZ l left))).testBit i) (fun i h => by simp [bit, h])]
      unfold mcP
      congr 1
      refine List.ext_getElem? fun j => ?_
      rw [maskL_get, maskL_get]
      cases hj : (partL l left)[j]? with
      | none => rfl
      | some c =>
        have hjl := (List.getElem?_eq_some_iff.1 hj).1
        have h1 := (placeZ_get (l := l) (left := left) (i := (j : Int)) (by rw [Int.toNat_natCast]; exact hjl)).2
        have key : (w.any fun i => (placeZ l left i).toNat == (placeZ l left (j : Int)).toNat) = (maskN w).testBit j := by
          rw [Bool.eq_iff_iff, maskN_bit, List.any_eq_true]
          constructor
          · rintro ⟨i, hi, e⟩
            refine ⟨i, hi, ?_⟩
            rw [beq_iff_eq] at e
            have hz : (partZ l left).length = (partL l left).length := by simp [partL]
            have e2 : (((partZ l left)[i.toNat]?).map (·.2)).getD 0 = (((partZ l left)[(j : Int).toNat]?).map (·.2)).getD 0 := by
              unfold placeZ at e
              rw [Int.toNat_natCast, Int.toNat_natCast] at e
              exact e
            rw [Int.toNat_natCast] at e2
            have hi' := hin i hi
            rw [List.getElem?_eq_getElem (by omega), List.getElem?_eq_getElem (by omega)] at e2
            simp only [Option.map_some, Option.getD_some] at e2
            -- the places are different
            have nd : ((partZ l left).map (·.2)).Nodup := by
              unfold partZ
              have h9 : (l.zipIdx.map (·.2)).Nodup := by
                rw [List.zipIdx_map_snd]
                exact List.nodup_range'
              exact h9.sublist (List.filter_sublist.map _)
            have := List.getElem_inj (i := i.toNat) (j := j) (xs := (partZ l left).map (·.2)) (h₀ := by simp; omega) (h₁ := by simp; omega) nd
            exact this.1 (by simpa using e2)
          · rintro ⟨i, hi, e⟩
            refine ⟨i, hi, ?_⟩
            have h0 := (hok.2.2 i hi).1
            rw [beq_iff_eq, show i = (j : Int) by omega]
        simp only [Option.map_some, bit, h1, Bool.true_and, key]
        simp
    rw [e, List.length_append]
    simp only [List.length_cons, List.length_nil]
    omega
  · intro u hu
    rcases List.mem_append.1 hu with hu | hu
    · obtain ⟨h1, h2⟩ := a.ways u hu
      exact ⟨h1, fun i hi => by rw [bit, h2 i hi]; rfl⟩
    · simp only [List.mem_singleton] at hu
      subst hu
      refine ⟨place_way v hs hst hw, fun i hi => ?_⟩
      obtain ⟨x, hx, rfl⟩ := List.mem_map.1 hi
      rw [bit, Bool.and_eq_false_iff]
      right
      simp only [Bool.not_eq_false']
      exact List.any_eq_true.2 ⟨x, hx, by simp⟩
  · rw [List.pairwise_append]
    refine ⟨a.dis, List.pairwise_singleton _ _, fun u hu u' hu' i hi hi' => ?_⟩
    simp only [List.mem_singleton] at hu'
    subst hu'
    obtain ⟨x, hx, rfl⟩ := List.mem_map.1 hi'
    have h1 := (a.ways u hu).2 _ hi
    have h2 := (placeZ_get (l := l) (left := left) (i := x) (hin x hx)).2
    rw [h1] at h2
    cases h2
end Go.AM
end

section
namespace Go.AM
open Go.Proofs
theorem SsR.row {h : H} {vs : List Value} {ls : List (List Int)} (a : SsR h vs ls) {v : Value} (hv : v ∈ vs) {b : Nat} (hb : blkOf v = some b) : ∃ c o, h.blk b = some (.row c 3 o) := by
  obtain ⟨j, hj, rfl⟩ := List.getElem_of_mem hv
  have := a.2 j vs[j] (ls[j]'(by rw [← a.1]; exact hj)) (List.getElem?_eq_getElem hj) (List.getElem?_eq_getElem _)
  generalize vs[j] = v at *
  generalize cellsI (ls[j]'_) = L at this
  cases this with
  | nil => cases hb
  | at_ hb' hr => cases hb; exact ⟨_, _, hr⟩
theorem s48_bad {n s t : Int} {sl : Value} {l : List Kl} {h : H} (hs : SlR h 56 3 sl (l.map Kl.cells)) (hp : pairP n l s t = false) : ∃ h', rn 48 #[.agg #[iv n, sl], iv s, iv t] h = some (.tuple #[.slice none 0 0, iv 2], h') ∧ Ext h h' := by
  let h3 : H := ((h.new (.row [iv n, sl] 31 true)).new (.row [iv s] 3 true)).new (.row [iv t] 3 true)
  have x3 : Ext h h3 := (((Ext.refl h).new' _).new' _).new' _
  have b0 : h3.blk h.nx = some (.row [iv n, sl] 31 true) := by
    show (if h.nx = h.nx + 1 + 1 then _ else if h.nx = h.nx + 1 then _ else if h.nx = h.nx then _ else _) = _
    rw [if_neg (by omega), if_neg (by omega), if_pos rfl]
  have b1 : h3.blk (h.nx + 1) = some (.row [iv s] 3 true) := by
    show (if h.nx + 1 = h.nx + 1 + 1 then _ else if h.nx + 1 = h.nx + 1 then _ else _) = _
    rw [if_neg (by omega), if_pos rfl]
  have b2 : h3.blk (h.nx + 1 + 1) = some (.row [iv t] 3 true) := by
    show (if h.nx + 1 + 1 = h.nx + 1 + 1 then _ else _) = _
    rw [if_pos rfl]
  refine ⟨h3, x48 (k := 0) (h1 := h3) ?_ rfl, x3⟩
  unfold f48
  rw [bx_eq, bx_eq, bx_eq]
  simp only [Value.cells, nx_eq, nx_new]
  show ld Try.prog h3 31 h.nx 0 _ = _
  rw [d31, rd_all (n := 2) b0 rfl, Option.bind_some]
  show ld Try.prog h3 3 (h.nx + 1) 0 _ = _
  rw [d3, cell_of b1]
  simp only [List.getElem?_cons_zero, Option.bind_some, asI_int]
  show ld Try.prog h3 3 (h.nx + 1 + 1) 0 _ = _
  rw [d3, cell_of b2]
  simp only [List.getElem?_cons_zero, Option.bind_some, asI_int]
  refine (k82 (hs.ext x3) _).trans ?_
  rw [asB_bool, hp]
  rfl
/-- One way more is taken. -/
theorem l481 {n : Nat} {s t : Int} {sl : Value} {l : List Kl} {h0 h1 h2 h5 h8 h9 : H} (hp : pairP n l s t = true) (hs : SlR h9 56 3 sl (l.map Kl.cells)) (hsb : ∀ b, blkOf sl = some b → b ≠ h8.nx) (b0 : h9.blk h0.nx = some (.row [iv n, sl] 31 true)) (b1 : h9.blk h1.nx = some (.row [iv s] 3 true)) (b2 : h9.blk h2.nx = some (.row [iv t] 3 true))
    (b5 : h9.blk h5.nx = some (.row [iv (mcP l s t 0)] 3 true)) (lt0 : h0.nx < h8.nx ∧ h1.nx < h8.nx ∧ h2.nx < h8.nx ∧ h5.nx < h8.nx ∧ h8.nx < h9.nx) {left : Nat} {W : List (List Int)} {ws : List Value} {g : H} (hw : ws = [iv left]) (hn : h9.nx ≤ g.nx) (hf : ∀ b, b < h9.nx → b ≠ h8.nx → g.blk b = h9.blk b)
    {ov : Value} {vs : List Value} (hob : g.blk h8.nx = some (.row [ov] 58 true)) (hov : AqR h9.nx g 25 1 ov (cellsV vs)) (hss : SsR g vs W) (ap : ApI l s t left W) (hlt : W.length < mcP l s t 0) :
    ∃ (left' : Nat) (g' : H) (ov' : Value) (vs' : List Value) (W' : List (List Int)), f48_l1 rn 1000 h0 h1 h2 h5 h8 ws g = some (.normal, [iv left'], g') ∧ h9.nx ≤ g'.nx ∧ (∀ b, b < h9.nx → b ≠ h8.nx → g'.blk b = h9.blk b) ∧ g'.blk h8.nx = some (.row [ov'] 58 true) ∧ AqR h9.nx g' 25 1 ov' (cellsV vs') ∧ SsR g' vs' W' ∧ ApI l s t left' W' ∧ W'.length = W.length + 1 := by
  subst hw
  obtain ⟨hv, hsn, htn, hst⟩ := pairP_parts hp
  have v := vp_iff.1 hv
  have hl24 := v.len
  have hmc := mcP_le (l := l) hst 0
  have a0 := (hf _ (by omega) (by omega)).trans b0
  have a1 := (hf _ (by omega) (by omega)).trans b1
  have a2 := (hf _ (by omega) (by omega)).trans b2
  have a5 := (hf _ (by omega) (by omega)).trans b5
  have slg : SlR g 56 3 sl (l.map Kl.cells) := slR_keep hs hn fun b hb => hf b (slR_bel hs hb) (hsb b hb)
  -- the part that is left
  have y12 := (Ext.refl g).fresh 31 [.int .i64 0, .slice none 0 0] [iv n, .slice none 0 0]
  have p12 := blk_fresh g 31 [.int .i64 0, .slice none 0 0] [iv n, .slice none 0 0]
  have n12 : (g.fresh 31 [.int .i64 0, .slice none 0 0] [iv n, .slice none 0 0]).nx = g.nx + 1 := rfl
  have hfr : ∀ {R : Type} (K : H → Option R), (al g 31 [(.int .i64 0), (.slice none 0 0)] fun h11 => st Try.prog h11 31 (nx g) 0 (.agg #[iv n, .slice none 0 0]) K) = K (g.fresh 31 [.int .i64 0, .slice none 0 0] [iv n, .slice none 0 0]) := fun K => al_st sz31 rfl rfl
  generalize g.fresh 31 [.int .i64 0, .slice none 0 0] [iv n, .slice none 0 0] = h12 at *
  obtain ⟨ix, h21, sv, q482, n21, f21, p21, asv, aix⟩ := l482 (ws0 := [iv left]) (h10 := g) ap.lt rfl (by omega) p12 (slg.ext y12) hl24 1000 (by omega)
  -- the way's own variable
  generalize e22 : h21.new (.row [.slice none 0 0] 25 true) = h22
  have n22 : h22.nx = h21.nx + 1 := by rw [← e22]; rfl
  have x22 : Ext h21 h22 := by rw [← e22]; exact .new _ _
  have w22 : h22.blk h21.nx = some (.row [.slice none 0 0] 25 true) := by rw [← e22, blk_new, if_pos rfl]
  have low : ∀ b, b < g.nx → h22.blk b = g.blk b := fun b hb => by rw [x22.blk b (by omega), f21 b (by omega) (by omega), y12.blk b hb]
  have c0 := (low _ (by omega)).trans a0
  have c1 := (low _ (by omega)).trans a1
  have c2 := (low _ (by omega)).trans a2
  have c5 := (low _ (by omega)).trans a5
  have cob := (low _ (by omega)).trans hob
  have cpb : h22.blk g.nx = some (.row [iv n, sv] 31 true) := (x22.blk _ (by omega)).trans p21
  have asv22 := asv.ext x22
  have hpl : pairP n (partL l left) s t = true := by
    unfold pairP
    rw [vp_iff.2 (v.part left), decide_eq_true hsn, decide_eq_true htn]
    simp [hst]
  have hvs : vs.length = W.length := hss.1
  have hlov : (cellsV vs).length = W.length := by simp [hvs]
  have mc : mcP (partL l left) s t 0 = (mcP l s t 0 - W.length - 1) + 1 := by
    rw [part_mc]; have := ap.gm; omega
  obtain ⟨w, tw, hw, hmw⟩ := take_some (v.part left) hsn hst mc
  have ov22 : AqR h9.nx h22 25 1 ov (cellsV vs) := hov.keep (by omega) fun b hb => low b (hov.blkOf hb).2.1
  have cb := pick_cb (g6 := h22) (wb := h21.nx) (pb := g.nx) (sb := h1.nx) (tb := h2.nx) (cb := h5.nx) (ob := h8.nx) (n := n) (pl := partL l left) (slp := sv) (ov := ov) (ol := cellsV vs) (s := s) (t := t) (cnt := mcP l s t 0) (by omega)
    ⟨by omega, by omega, cpb⟩ ⟨by omega, by omega, c1⟩ ⟨by omega, by omega, c2⟩ ⟨by omega, by omega, c5⟩ ⟨by omega, by omega, cob⟩ ov22.slR asv22.slR (fun b hb => ⟨(asv22.blkOf hb).2.1, by have := (asv.blkOf hb).2.1; omega⟩) hpl (by omega) (by rw [hlov]; exact hlt)
  rw [hlov] at cb
  obtain ⟨h23, D', q85, ⟨⟨i1, i2, wv, i3, i4⟩, _⟩, n23, f23⟩   := s85 (sl := sv) (σ0 := none) cb (by rintro b rfl; omega) (vp_iff.2 (v.part left)) hsn asv22.slR (fun b hb e => by have := (asv.blkOf hb).2.1; omega) ⟨⟨Nat.le_refl _, fun _ _ _ => rfl, .slice none 0 0, w22, rfl, rfl⟩, fun w hw => by cases hw⟩ rfl rfl
    (fun w hw => allWays_ok w hw)
  have tw' : (allWays (partL l left) s t).foldl (pickP (partL l left) s t (mcP l s t 0 - W.length - 1)) none = some w := tw
  rw [tw'] at i4
  obtain ⟨hw0, q, _, q1, q2, ia⟩ := i4
  have f23' : ∀ b, b < h22.nx → b ≠ h21.nx → h23.blk b = h22.blk b := fun b hb hne => f23 b hb hne
  have aix23 : SlR h23 3 1 ix (cellsI (idxZ l left)) := slR_keep aix.slR (by omega) fun b hb => by rw [f23' b (by have := (aix.blkOf hb).2.1; omega) (by have := (aix.blkOf hb).2.1; omega), x22.blk b (aix.blkOf hb).2.1]
  have hokw := allWays_ok w hw
  have hzl : (partL l left).length = (partZ l left).length := by simp [partL]
  obtain ⟨h26, q483, n26, f26, ia26⟩ := l483 (h21 := h21) (h23 := h23) (ix := ix) (wv := wv) (ws2 := [ix, iv l.length]) (l := l) (left := left) (q := q) (w := w) hl24 ap.lt rfl i3 (by omega) aix23 (fun e => by have := (aix.blkOf e).2.1; omega) ia (fun x hx => by have := hokw.2.2 x hx; omega) 1000 hokw.2.1
  -- what was there
  have low26 : ∀ b, b < g.nx → h26.blk b = g.blk b := fun b hb => by rw [f26 b (by omega), f23' b (by omega) (by omega), low b hb]
  have ov26 : AqR h9.nx h26 25 1 ov (cellsV vs) := hov.keep (by omega) fun b hb => low26 b (hov.blkOf hb).2.1
  have ss26 : SsR h26 vs W := hss.keep (by omega) fun u hu b hb => low26 b (hss.bel hu hb)
  have ob26 := (low26 _ (by omega)).trans hob
  have wb26 : h26.blk h21.nx = some (.row [wv] 25 true) := (f26 _ (by omega)).trans i3
  obtain ⟨cw, hcw, _, _⟩ := ia26.val
  obtain ⟨ov', h28, e28, a28, n28, k28, b28, hb28, hb28'⟩ := ov26.push (xv := wv) (x := [wv]) app58 app58 (by rw [hcw]; exact bls58 _ _ _ _) rfl (by rw [hcw]; rfl) (by rw [hlov]; omega) (by omega)
  have ob28 : h28.blk h8.nx = some (.row [ov] 58 true) := (k28 _ (by omega) (fun e => by have := (ov26.blkOf e).2.2; rw [ob26] at this; simp at this)).trans ob26
  have hst' : wrc 1 h28 h8.nx 0 ov' = some (h28.set h8.nx (.row [ov'] 58 true)) := by rw [wrc_one ob28 a28.cells.1 a28.cells.2 (by simp)]; rfl
  have step := ap.step v hsn hst hw (by omega) hlt
  have keep28 : ∀ b c o, b < h26.nx → h26.blk b = some (.row c 3 o) → (h28.set h8.nx (.row [ov'] 58 true)).blk b = h26.blk b := fun b c o hb hr => by
    rw [blk_set_ne _ _ _ (fun e => by rw [e, ob26] at hr; simp at hr), k28 b hb (fun e => by have := (ov26.blkOf e).2.2; rw [hr] at this; simp at this)]
  refine ⟨leftS left (w.map (placeZ l left)), h28.set h8.nx (.row [ov'] 58 true), ov', vs ++ [wv], W ++ [w.map (placeZ l left)], ?_, by rw [nx_set]; omega, fun b hb hne => ?_, blk_set_self _ _ _, ?_, ?_, step, by simp⟩
  · unfold f48_l1
    simp only [nx_eq]
    rw [d58, cell_of hob]
    simp only [List.getElem?_cons_zero, Option.bind_some]
    rw [hov.slR.len, hlov, d3, cell_of a5]
    simp only [List.getElem?_cons_zero, Option.bind_some, asI_int]
    rw [lt_t (by omega), ifB_true, d3, cell_of a0]
    simp only [List.getElem?_cons_zero, Option.bind_some, asI_int]
    rw [show ∀ K : Value → Option (Ex × List Value × H), bld Try.prog 31 [(0, .int .i64 (n : Int))] K = K (.agg #[iv n, .slice none 0 0]) from fun K => bld_some (by kernel_rfl)]
    refine (hfr _).trans ?_
    rw [d29, cell_of ((y12.blk _ (by omega)).trans a0), show ([iv (n : Int), sl] : List Value)[off 0 1]? = some sl from rfl, Option.bind_some, (slg.ext y12).len, List.length_map, lp_eq q482, onE_exit, if_pos rfl, al_eq, e22]
    rw [d31, rd_all (n := 2) cpb rfl, Option.bind_some, d3, cell_of c1]
    simp only [List.getElem?_cons_zero, Option.bind_some, asI_int]
    rw [d3, cell_of c2]
    simp only [List.getElem?_cons_zero, Option.bind_some, asI_int]
    refine (calls_eq (xs := [_, _, _, _]) q85).trans ?_
    rw [d25, cell_of i3]
    simp only [List.getElem?_cons_zero, Option.bind_some]
    rw [ia.len]
    have q483' : lpGo (f48_l3 rn 1000 [ix, iv l.length] h21 wv w.length) 1000 [gv [iv (left : Int)] 0, .int .i64 0] h23 = _ := q483
    rw [lp_eq q483', onE_exit, if_pos rfl, d58, cell_of ob26]
    simp only [List.getElem?_cons_zero, Option.bind_some]
    rw [d25, cell_of wb26]
    simp only [List.getElem?_cons_zero, Option.bind_some]
    rw [e28]
    rw [w58, hst']
    rfl
  · have hgl : b < g.nx := by omega
    rw [blk_set_ne _ _ _ hne, k28 b (by omega) (fun e => by have := (ov26.blkOf e).1; omega), low26 b hgl, hf b hb hne]
  · rw [cellsV, List.map_append]
    exact a28.keep (Nat.le_refl _) fun b hb => blk_set_ne _ _ _ fun e => by rw [hb28] at hb; cases hb; omega
  · refine SsR.snoc (ss26.keep (by rw [nx_set]; exact n28) fun u hu b hb => ?_) ?_
    · obtain ⟨c, o, hr⟩ := ss26.row hu hb
      exact keep28 b c o (ss26.bel hu hb) hr
    · exact slR_keep ia26.slR (by rw [nx_set]; exact n28) fun b hb => by
        have : b = q := by rw [hcw] at hb; cases hb; rfl
        subst this
        exact keep28 b _ _ ia26.lt ia26.row
theorem s48 {n : Nat} {s t : Int} {sl : Value} {l : List Kl} {h : H} (hs : SlR h 56 3 sl (l.map Kl.cells)) (hp : pairP n l s t = true) :
    ∃ v vs W h', rn 48 #[.agg #[iv n, sl], iv s, iv t] h = some (.tuple #[v, iv 0], h') ∧ Ext h h' ∧ SlR h' 25 1 v (cellsV vs) ∧ SsR h' vs W ∧ AprR l s t W := by
  obtain ⟨hv, hsn, htn, hst⟩ := pairP_parts hp
  have hl24 := (validP_ok hv).2.2.1
  have hmc := mcP_le (l := l) hst 0
  generalize e1 : h.new (.row [iv n, sl] 31 true) = h1
  generalize e2 : h1.new (.row [iv s] 3 true) = h2
  generalize e3 : h2.new (.row [iv t] 3 true) = h3
  have n1 : h1.nx = h.nx + 1 := by rw [← e1]; rfl
  have n2 : h2.nx = h.nx + 2 := by rw [← e2]; show h1.nx + 1 = _; omega
  have n3 : h3.nx = h.nx + 3 := by rw [← e3]; show h2.nx + 1 = _; omega
  have x3 : Ext h h3 := by rw [← e3, ← e2, ← e1]; exact (((Ext.refl h).new' _).new' _).new' _
  have b30 : h3.blk h.nx = some (.row [iv n, sl] 31 true) := by rw [← e3, blk_new_ne _ _ (by omega), ← e2, blk_new_ne _ _ (by omega), ← e1, blk_new_self]
  have b31 : h3.blk h1.nx = some (.row [iv s] 3 true) := by rw [← e3, blk_new_ne _ _ (by omega), ← e2, blk_new_self]
  have b32 : h3.blk h2.nx = some (.row [iv t] 3 true) := by rw [← e3, blk_new_self]
  obtain ⟨h5, lo, nb, rb, xb, nxs, r, k, c83, nt, mf, x5, _⟩ := s83 (gone := 0) (hs.ext x3) hv (by decide) hsn htn hst
  have hk : k = mcP l s t 0 := mf.gm
  have y7 := (Ext.refl h5).fresh 3 [iv 0] [iv k]
  have p7 := blk_fresh h5 3 [iv 0] [iv k]
  have n7 : (h5.fresh 3 [iv 0] [iv k]).nx = h5.nx + 1 := rfl
  have hfr : ∀ {R : Type} (K : H → Option R), (al h5 3 [(.int .i64 0)] fun h6 => st Try.prog h6 3 (nx h5) 0 (.int .i64 k) K) = K (h5.fresh 3 [iv 0] [iv k]) := fun K => al_st1 sz3 rfl rfl
  generalize h5.fresh 3 [iv 0] [iv k] = h7 at *
  have x7 := x3.trans (x5.trans y7)
  have c84 := s84 (hs.ext x7) hl24 (nt.ext y7)
  generalize e9 : h7.new (.row [.slice none 0 0] 58 true) = h9
  have n9 : h9.nx = h7.nx + 1 := by rw [← e9]; rfl
  have x9 : Ext h7 h9 := by rw [← e9]; exact .new _ _
  have b9 : h9.blk h7.nx = some (.row [.slice none 0 0] 58 true) := by rw [← e9, blk_new_self]
  have n5 := x5.nx
  have lift : ∀ b, b < h3.nx → h9.blk b = h3.blk b := fun b hb => by rw [x9.blk b (by omega), y7.blk b (by omega), x5.blk b hb]
  have ap0 : ApI l s t (usedN r l.length) [] := ⟨Nat.lt_of_lt_of_le (usedN_lt r _) (Nat.pow_le_pow_right (by decide) hl24), by rw [used_gm hl24 hst (by exact mf), hk]; rfl, by simp, List.Pairwise.nil⟩
  have hsl9 : SlR h9 56 3 sl (l.map Kl.cells) := hs.ext (x7.trans x9)
  have b9' : ∀ b, blkOf sl = some b → b ≠ h7.nx := fun b hb => by have := slR_bel hs hb; omega
  have b59 : h9.blk h5.nx = some (.row [iv (mcP l s t 0)] 3 true) := by rw [x9.blk _ (by omega), p7, hk]
  obtain ⟨e, ws, g', q1, rfl, ov, vs, W, m1, m2, m3, m4, m5, m6, m7, m8⟩ := lp_meas (F := f48_l1 rn 1000 h h1 h2 h5 h7) (σ := Nat × List (List Int))
    (fun σ ws g => ws = [iv σ.1] ∧ h9.nx ≤ g.nx ∧ (∀ b, b < h9.nx → b ≠ h7.nx → g.blk b = h9.blk b) ∧ ∃ ov vs, g.blk h7.nx = some (.row [ov] 58 true) ∧ AqR h9.nx g 25 1 ov (cellsV vs) ∧ SsR g vs σ.2 ∧ ApI l s t σ.1 σ.2)
    (fun σ => mcP l s t 0 - σ.2.length)
    (fun e ws g => e = .exit 0 ∧ ∃ ov vs W, h9.nx ≤ g.nx ∧ (∀ b, b < h9.nx → b ≠ h7.nx → g.blk b = h9.blk b) ∧ g.blk h7.nx = some (.row [ov] 58 true) ∧ AqR h9.nx g 25 1 ov (cellsV vs) ∧ SsR g vs W ∧ W.length = mcP l s t 0 ∧ (∀ w ∈ W, w ∈ allWays l s t) ∧ W.Pairwise fun w u => ∀ i ∈ w, i ∉ u)
    (fun σ ws g hI => by
      obtain ⟨left, W⟩ := σ
      obtain ⟨hw, hn, hf, ov, vs, hob, hov, hss, ap⟩ := hI
      simp only at hw hss ap
      by_cases hlt : W.length < mcP l s t 0
      · obtain ⟨left', g', ov', vs', W', r1, r2, r3, r4, r5, r6, r7, r8⟩ := l481 (h0 := h) (h1 := h1) (h2 := h2) (h5 := h5) (h8 := h7) hp hsl9 b9' ((lift _ (by omega)).trans b30) ((lift _ (by omega)).trans b31) ((lift _ (by omega)).trans b32) b59 (by omega) hw hn hf hob hov hss ap hlt
        exact ⟨_, _, g', r1, .inl ⟨rfl, (left', W'), ⟨rfl, r2, r3, ov', vs', r4, r5, r6, r7⟩, by simp only; omega⟩⟩
      · refine ⟨.exit 0, [gv ws 0], g, ?_, .inr ⟨by simp, rfl, ov, vs, W, hn, hf, hob, hov, hss, by have := ap.gm; omega, fun w hw => (ap.ways w hw).1, ap.dis⟩⟩
        have a5 := (hf h5.nx (by omega) (by omega)).trans b59
        have hlov : (cellsV vs).length = W.length := by simp [hss.1]
        unfold f48_l1
        simp only [nx_eq]
        rw [d58, cell_of hob]
        simp only [List.getElem?_cons_zero, Option.bind_some]
        rw [hov.slR.len, hlov, d3, cell_of a5]
        simp only [List.getElem?_cons_zero, Option.bind_some, asI_int]
        rw [lt_f (by omega), ifB_false]
        rfl) 1000 (usedN r l.length, []) [iv (usedN r l.length)] h9 (by simp only; omega) ⟨rfl, Nat.le_refl _, fun _ _ _ => rfl, _, [], b9, .nil, ⟨rfl, fun j v l hv => by simp at hv⟩, ap0⟩
  have xg : Ext h g' := ⟨by omega, fun b hb => by rw [m2 b (by omega) (by omega), lift b (by omega), x3.blk b hb]⟩
  refine ⟨ov, vs, W, g', x48 (k := 1000) ?_ (by obtain ⟨x, y, z, hz⟩ := m4.isSl; rw [hz]; rfl), xg, m4.slR, m5, m6, m7, m8⟩
  unfold f48
  rw [bx_eq]
  simp only [Value.cells, nx_eq]
  rw [e1, bx_eq]
  simp only [Value.cells]
  rw [e2, bx_eq]
  simp only [Value.cells]
  rw [e3, d31, rd_all (n := 2) b30 rfl, Option.bind_some, d3, cell_of b31]
  simp only [List.getElem?_cons_zero, Option.bind_some, asI_int]
  rw [d3, cell_of b32]
  simp only [List.getElem?_cons_zero, Option.bind_some, asI_int]
  refine (k82 (hs.ext x3) _).trans ?_
  rw [asB_bool, hp, Bool.not_true, ifB_false, d31, rd_all (n := 2) b30 rfl, Option.bind_some, d3, cell_of b31]
  simp only [List.getElem?_cons_zero, Option.bind_some, asI_int]
  rw [d3, cell_of b32]
  simp only [List.getElem?_cons_zero, Option.bind_some, asI_int]
  refine (calls_eq (xs := [_, _, _, _]) c83).trans ?_
  rw [ext20, ext21, asI_int]
  refine (hfr _).trans ?_
  rw [d31, rd_all (n := 2) (((y7.blk _ (by omega)).trans (x5.blk _ (by omega))).trans b30) rfl, Option.bind_some]
  refine (calls_eq (xs := [_, _]) c84).trans ?_
  rw [asI_int, al_eq, e9, lp_eq q1, onE_exit, if_pos rfl, d58, cell_of m3]
  rfl
end Go.AM
end

section
namespace Go.AM
open Go.Proofs
/-- The two people of a call. -/
def endsK (pl : List Kl) (x : Int) : Nat :=
  match pl[x.toNat]? with
  | some c => 2 ^ c.a.toNat ||| 2 ^ c.b.toNat
  | none => 0
/-- All people of a way. -/
def orW (pl : List Kl) (w : List Int) : Nat := w.foldl (fun a x => a ||| endsK pl x) 0
/-- Those between. -/
def betM (pl : List Kl) (s t : Int) (w : List Int) : Nat := without (without (orW pl w) (2 ^ s.toNat)) (2 ^ t.toNat)
def insK (ks : List Nat) (x : Nat) : List Nat := if x ∈ ks then ks else ks ++ [x]
/-- What a way adds. -/
def wideS (pl : List Kl) (s t : Int) (σ : Int × List Nat) (w : List Int) : Int × List Nat := if w.length = 1 then (AM.add .i64 σ.1 1, σ.2) else (σ.1, insK σ.2 (betM pl s t w))
theorem two_lt {p : Int} (h : 0 ≤ p ∧ p < 7) : 2 ^ p.toNat < 2 ^ 7 := Nat.pow_lt_pow_right (by decide) (by omega)
theorem endsK_lt {n : Int} {pl : List Kl} (hv : validP n pl = true) (x : Int) : endsK pl x < 2 ^ 7 := by
  obtain ⟨h1, h2, h3, h4⟩ := validP_ok hv
  unfold endsK
  split
  · rename_i c hc
    obtain ⟨a1, a2, _⟩ := okC_iff.1 (h4 _ c hc)
    exact Nat.or_lt_two_pow (two_lt (by omega)) (two_lt (by omega))
  · decide
theorem orW_lt {n : Int} {pl : List Kl} (hv : validP n pl = true) (w : List Int) : orW pl w < 2 ^ 7 := by
  unfold orW
  have : ∀ (w : List Int) (a : Nat), a < 2 ^ 7 → w.foldl (fun a x => a ||| endsK pl x) a < 2 ^ 7 := by
    intro w
    induction w with
    | nil => intro a h; exact h
    | cons x w ih => intro a h; exact ih _ (Nat.or_lt_two_pow h (endsK_lt hv x))
  exact this w 0 (by decide)
theorem betM_lt {n : Int} {pl : List Kl} (hv : validP n pl = true) (s t : Int) (w : List Int) : betM pl s t w < 2 ^ 7 := without_le _ _ (without_le _ _ (orW_lt hv w))
theorem putW (ks : List Nat) (x : Nat) : putK (kvW ks) x (.bool true) = kvW (insK ks x) := by
  unfold putK insK
  cases hl : lookK (kvW ks) x 0 with
  | none =>
    have hm : ¬ x ∈ ks := fun h => (lookK_none (kvW ks) 0).1 hl _ (List.mem_map.2 ⟨x, h, rfl⟩) rfl
    rw [if_neg hm]
    simp [kvW]
  | some r =>
    obtain ⟨i, v⟩ := r
    obtain ⟨j, h1, h2⟩ := lookK_some (kvW ks) 0 _ hl
    simp only [Nat.zero_add] at h1
    subst h1
    have h3 := h2
    unfold kvW at h3
    rw [List.getElem?_map] at h3
    cases hk : ks[i]? with
    | none => rw [hk] at h3; cases h3
    | some y =>
      rw [hk] at h3
      simp only [Option.map_some, Option.some.injEq, Prod.mk.injEq] at h3
      obtain ⟨rfl, rfl⟩ := h3
      rw [if_pos (List.mem_of_getElem? hk)]
      exact set_self h2
theorem under98 : Try.prog.underlying 98 = some (.map 3 4) := by kernel_rfl
/-- What the search for the width holds. -/
def WideI (g6 : H) (db mb : Nat) (σ : Int × List Nat) (D : List Nat) (g : H) : Prop :=
  D = [] ∧ g6.nx ≤ g.nx ∧ (∀ b, b < g6.nx → b ≠ db → b ≠ mb → g.blk b = g6.blk b) ∧ g.blk db = some (.row [iv σ.1] 3 true) ∧ g.blk mb = some (mpOf encN (kvW σ.2))
theorem l88 {k : Nat} {wv slp : Value} {w : List Int} {pl : List Kl} {n : Int} {g : H} {pb : Nat} (hv : validP n pl = true) (hw : SlR g 3 1 wv (cellsI w)) (hr : ∀ x ∈ w, 0 ≤ x ∧ x < pl.length) (hpb : g.blk pb = some (.row [iv n, slp] 31 true)) (hsl : SlR g 56 3 slp (pl.map Kl.cells)) (hk : w.length < k) :
    ∃ ws, lpGo (f88_l1 rn k wv (pt pb 0) w.length) k [iv 0, iv 0] g = some (.exit 0, ws, g) ∧ gv ws 0 = iv (orW pl w) := by
  have hlen := hw.lt62
  rw [List.length_map] at hlen
  obtain ⟨h1, h2, h3, h4⟩ := validP_ok hv
  obtain ⟨ws', g', q1, _, rfl, rfl⟩ := lp_for (k := k) (l := w) (F := f88_l1 rn k wv (pt pb 0) w.length) (fun _ (x : Int) (a : Nat) => a ||| endsK pl x)
    (fun i a ws g' => a < 2 ^ 7 ∧ g' = g ∧ ws = [iv a, iv i]) 0 (ws := [iv 0, iv 0]) (h := g) (s0 := 0) ⟨by decide, rfl, rfl⟩ hk
    (fun a ws g' hI => by
      obtain ⟨_, rfl, rfl⟩ := hI
      unfold f88_l1
      simp only [gv, List.getD_cons_zero, List.getD_cons_succ, asI_int]
      rw [lt_f (by omega), ifB_false]; rfl)
    (fun i x a ws g' hx hI => by
      obtain ⟨ha, rfl, rfl⟩ := hI
      have hi := (List.getElem?_eq_some_iff.1 hx).1
      obtain ⟨x0, xl⟩ := hr x (List.mem_of_getElem? hx)
      obtain ⟨c, hc⟩ : ∃ c, pl[x.toNat]? = some c := ⟨_, List.getElem?_eq_getElem (by omega)⟩
      obtain ⟨a1, a2, _⟩ := okC_iff.1 (h4 _ c hc)
      have p1 := two_lt (p := c.a) (by omega)
      have p2 := two_lt (p := c.b) (by omega)
      have ee : endsK pl x = 2 ^ c.a.toNat ||| 2 ^ c.b.toNat := by unfold endsK; rw [hc]
      have eb : endsK pl x < 2 ^ 7 := endsK_lt hv x
      refine ⟨[iv (a ||| endsK pl x : Nat), iv (i + 1 : Nat)], g', ?_, Nat.or_lt_two_pow ha eb, rfl, by simp⟩
      unfold f88_l1
      simp only [gv, List.getD_cons_zero, List.getD_cons_succ, asI_int, asK_int, asP_ptr]
      rw [lt_t (by omega), ifB_true]
      simp only [d3, d29]
      rw [hw.c0 (by omega) (x := [iv x]) (by simp [hx]) rfl, asI_int]
      simp only [cell_of hpb, off, Nat.zero_add, List.getElem?_cons_succ, List.getElem?_cons_zero, Option.bind_some]
      rw [hsl.c0 x0 (x := c.cells) (by simp [hc]) (y := iv c.a) rfl, asI_int]
      rw [nn_ge a1.1]
      rw [hsl.cF x0 (x := c.cells) (by simp [hc]) (j := 1) (y := iv c.b) rfl, asI_int]
      rw [nn_ge a2.1]
      have e1 : AM.shl .i64 1 c.a = ((2 ^ c.a.toNat : Nat) : Int) := by
        have := shl1_nat (p := c.a.toNat) (by omega)
        rwa [Int.toNat_of_nonneg a1.1] at this
      have e2 : AM.shl .i64 1 c.b = ((2 ^ c.b.toNat : Nat) : Int) := by
        have := shl1_nat (p := c.b.toNat) (by omega)
        rwa [Int.toNat_of_nonneg a2.1] at this
      rw [e1, e2, or_nat (by omega) (by omega), ← ee, or_nat (by omega) (by omega), add64 (by omega) (by omega)]
      rfl)
  refine ⟨_, q1, ?_⟩
  rw [foldI_foldl]
  rfl
theorem wide_cb {g6 : H} {db mb pb vb sb tb : Nat} {n : Int} {pl : List Kl} {slp : Value} {s t : Int} (hdb : db < g6.nx) (hmb : mb < g6.nx) (hdm : db ≠ mb)
    (hpb : pb < g6.nx ∧ pb ≠ db ∧ pb ≠ mb ∧ g6.blk pb = some (.row [iv n, slp] 31 true)) (hvb : vb < g6.nx ∧ vb ≠ db ∧ vb ≠ mb ∧ g6.blk vb = some (.row [.map (some mb)] 98 true))
    (hsb : sb < g6.nx ∧ sb ≠ db ∧ sb ≠ mb ∧ g6.blk sb = some (.row [iv s] 3 true)) (htb : tb < g6.nx ∧ tb ≠ db ∧ tb ≠ mb ∧ g6.blk tb = some (.row [iv t] 3 true))
    (hsl : SlR g6 56 3 slp (pl.map Kl.cells)) (hslb : ∀ b, blkOf slp = some b → b < g6.nx ∧ b ≠ db ∧ b ≠ mb) (hp : pairP n pl s t = true) :
    Cb (.func (.func 88) #[] #[pt db 0, pt pb 0, pt vb 0, pt sb 0, pt tb 0]) g6.nx (fun b => b = db ∨ b = mb) (okW pl) (WideI g6 db mb) (wideS pl s t) := by
  have hv := (pairP_parts hp).1
  obtain ⟨hv1, hv2, hv3, hv4⟩ := validP_ok hv
  obtain ⟨_, hs, ht, hst⟩ := pairP_parts hp
  refine ⟨?_, ?_, ?_⟩
  · rintro σ D g g' ⟨h1, h2, h3, h4, h5⟩ hn hlo hD
    exact ⟨h1, by omega, fun b hb hb1 hb2 => (hlo b hb).trans (h3 b hb hb1 hb2), (hlo _ hdb).trans h4, (hlo _ hmb).trans h5⟩
  · rintro σ D g ⟨rfl, _⟩ b hb
    cases hb
  · rintro σ D g wv w ⟨rfl, h2, h3, h4, h5⟩ hn hwv ⟨hw0, hwl, hwr⟩ hdis hlow
    obtain ⟨cnt, ks⟩ := σ
    have hlen : ∀ {R : Type} (K : Int → Option R), len wv K = K w.length := fun K => by rw [hwv.len]; simp
    by_cases h1 : w.length = 1
    · have hst : wrc 1 g db 0 (iv (AM.add .i64 cnt 1)) = some (g.set db (.row [iv (AM.add .i64 cnt 1)] 3 true)) := by rw [wrc_one h4 rfl rfl (by simp)]; rfl
      refine ⟨g.set db (.row [iv (AM.add .i64 cnt 1)] 3 true), [], x88 (k := 0) ?_ rfl, ?_, by rw [nx_set]; exact Nat.le_refl _, fun b _ hb _ => blk_set_ne _ _ _ (fun e => hb (.inl e)), fun b hb => .inl hb⟩
      · show f88 rn 0 wv (pt db 0) (pt pb 0) (pt vb 0) (pt sb 0) (pt tb 0) g = _
        unfold f88
        rw [hlen, eq_t (by omega), ifB_true]
        simp only [asP_ptr]
        rw [d3, cell_of h4]
        simp only [List.getElem?_cons_zero, Option.bind_some, asI_int]
        rw [w3, hst]
        rfl
      · unfold wideS
        rw [if_pos h1]
        exact ⟨rfl, by rw [nx_set]; exact h2, fun b hb hb1 hb2 => (blk_set_ne _ _ _ hb1).trans (h3 b hb hb1 hb2), blk_set_self _ _ _, (blk_set_ne _ _ _ (Ne.symm hdm)).trans h5⟩
    · have pbg := (h3 _ hpb.1 hpb.2.1 hpb.2.2.1).trans hpb.2.2.2
      have vbg := (h3 _ hvb.1 hvb.2.1 hvb.2.2.1).trans hvb.2.2.2
      have sbg := (h3 _ hsb.1 hsb.2.1 hsb.2.2.1).trans hsb.2.2.2
      have tbg := (h3 _ htb.1 htb.2.1 htb.2.2.1).trans htb.2.2.2
      have slg : SlR g 56 3 slp (pl.map Kl.cells) := slR_keep hsl h2 fun b hb => h3 b (hslb b hb).1 (hslb b hb).2.1 (hslb b hb).2.2
      obtain ⟨ws1, q1, q2⟩ := l88 (k := 1000) hv hwv hwr pbg slg hwl
      have ow := orW_lt hv w
      have ps := two_lt (p := s) (by omega)
      have pt_ := two_lt (p := t) (by omega)
      have e1 : AM.shl .i64 1 s = ((2 ^ s.toNat : Nat) : Int) := by
        have := shl1_nat (p := s.toNat) (by omega)
        rwa [Int.toNat_of_nonneg hs.1] at this
      have e2 : AM.shl .i64 1 t = ((2 ^ t.toNat : Nat) : Int) := by
        have := shl1_nat (p := t.toNat) (by omega)
        rwa [Int.toNat_of_nonneg ht.1] at this
      have wl := without_le (orW pl w) (2 ^ s.toNat) ow
      have em : AM.andNot .i64 (AM.andNot .i64 ((orW pl w : Nat) : Int) (AM.shl .i64 1 s)) (AM.shl .i64 1 t) = ((betM pl s t w : Nat) : Int) := by
        rw [e1, e2, andNot_nat (by omega) (by omega), andNot_nat (by omega) (by omega)]
        rfl
      refine ⟨g.set mb (mpOf encN (kvW (insK ks (betM pl s t w)))), [], x88 (k := 1000) ?_ rfl, ?_, by rw [nx_set]; exact Nat.le_refl _, fun b _ hb _ => blk_set_ne _ _ _ (fun e => hb (.inr e)), fun b hb => .inl hb⟩
      · show f88 rn 1000 wv (pt db 0) (pt pb 0) (pt vb 0) (pt sb 0) (pt tb 0) g = _
        unfold f88
        rw [hlen, eq_f (by omega), ifB_false, hlen, lp_eq q1, onE_exit, if_pos rfl, q2]
        simp only [asP_ptr, asI_int]
        rw [d98, cell_of vbg]
        simp only [List.getElem?_cons_zero, Option.bind_some]
        rw [d3, cell_of sbg]
        simp only [List.getElem?_cons_zero, Option.bind_some, asI_int]
        rw [nn_ge hs.1, d3, cell_of tbg]
        simp only [List.getElem?_cons_zero, Option.bind_some, asI_int]
        rw [nn_ge ht.1, em, ← putW]
        exact mup_of key3 under98 h5
      · unfold wideS
        rw [if_neg h1]
        exact ⟨rfl, by rw [nx_set]; exact h2, fun b hb hb1 hb2 => (blk_set_ne _ _ _ hb2).trans (h3 b hb hb1 hb2), (blk_set_ne _ _ _ hdm).trans h4, blk_set_self _ _ _⟩
end Go.AM
end

section
namespace Go.AM
open Go.Proofs
variable {k : Nat} {R : Type}
theorem mk25 {n : Nat} (hn : n < 2 ^ 30) (h : H) (K : Value → H → Option R) : mks Try.prog h 25 n n K = K (.slice (some ⟨h.nx, 0, none⟩) n n) (h.new (.row ((List.replicate n 0).map iv) 3 true)) :=
  mks_ints app25 (by kernel_rfl) hn K
theorem ia_newz {n : Nat} (hn : n < 2 ^ 30) (h : H) (x : Int) : IA (h.new (.row ((List.replicate n x).map iv) 3 true)) h.nx (.slice (some ⟨h.nx, 0, none⟩) n n) (List.replicate n x) := by
  have h30 : (2:Nat)^30 < U := by decide
  have hk : capK n = n := by unfold capK; rw [if_pos (by omega)]
  exact ⟨⟨n, by simp, by simp; omega, by omega⟩, Nat.lt_succ_self _, blk_new_self _ _⟩
attribute [local simp] nx_eq nx_new nx_set blk_new blk_set asI_int asK_int asB_bool asP_ptr al_eq bx_eq len_slice onE_exit onE_ret onR_ret Value.cells d3 d29 d31 d56 d24 d59 d22 cell_new cell_set rd_new rd_set off eq lt le ifB gv out eqF1 eqF2 eqF3 eqF4 eqF5 eqF6 eqF7 eqF8 w3
end Go.AM
end

section
namespace Go.AM
open Go.Proofs
/-- The table behind the first sets. -/
def tabT (ks : List Nat) (N : Nat) : Nat → List Int
  | 0 => List.replicate N 0
  | i + 1 => (tabT ks N i).set i (sumT (tabT ks N i) i ks).1
theorem tabT_len (ks : List Nat) (N : Nat) : ∀ i, (tabT ks N i).length = N := by
  intro i
  induction i with
  | zero => simp [tabT]
  | succ i ih => simp [tabT, ih]
theorem sumT_le {row : List Int} {set : Nat} (hr : ∀ (j : Nat) x, row[j]? = some x → 0 ≤ x ∧ x ≤ j) : ∀ (l : List Nat) (a : Int × Nat), (∀ x ∈ l, 0 < x) → (0 ≤ a.1 ∧ a.1 ≤ set) → 0 ≤ (l.foldl (stepT row set) a).1 ∧ (l.foldl (stepT row set) a).1 ≤ set := by
  intro l
  induction l with
  | nil => intro a _ h; exact h
  | cons x l ih =>
    intro a hl h
    rw [List.foldl_cons]
    refine ih _ (fun y hy => hl y (List.mem_cons_of_mem _ hy)) ?_
    unfold stepT
    split
    · rename_i h0
      have hlt := without_lt h0 (hl x List.mem_cons_self)
      have : 0 ≤ row.getD (without set x) 0 ∧ row.getD (without set x) 0 ≤ (without set x : Nat) := by
        rw [List.getD_eq_getElem?_getD]
        cases hx : row[without set x]? with
        | none => simp
        | some y => exact hr _ y hx
      simp only
      omega
    · exact h
theorem tabT_bnd {ks : List Nat} (hk : ∀ x ∈ ks, 0 < x) (N : Nat) : ∀ (i : Nat) (j : Nat) x, (tabT ks N i)[j]? = some x → 0 ≤ x ∧ x ≤ j := by
  intro i
  induction i with
  | zero =>
    intro j x h
    unfold tabT at h
    have := List.mem_of_getElem? h
    have := List.eq_of_mem_replicate this
    omega
  | succ i ih =>
    intro j x h
    unfold tabT at h
    rw [List.getElem?_set] at h
    split at h
    · rename_i e
      subst e
      split at h
      · cases h
        refine sumT_le ih ks _ hk ?_
        simp only
        rw [List.getD_eq_getElem?_getD]
        cases hx : (tabT ks N i)[i]? with
        | none => simp
        | some y => exact ih _ y hx
      · cases h
    · exact ih j x h
/-- The count of direct calls, and the sets between. -/
def wideF (pl : List Kl) (s t : Int) : Int × List Nat := (allWays pl s t).foldl (wideS pl s t) (0, [])
def fullN (n : Int) : Nat := 2 ^ n.toNat
def wideP (n : Int) (pl : List Kl) (s t : Int) : Int := AM.add .i64 (wideF pl s t).1 ((tabT (wideF pl s t).2 (fullN n) (fullN n)).getD (fullN n - 1) 0)
theorem l53 {mb vb b : Nat} {h7 h10 g0 : H} {mv : Value} {ks : List Nat} {N : Nat} (hN : 0 < N ∧ N ≤ 128) (hk : ∀ x ∈ ks, 0 < x ∧ x < 2 ^ 20) (h7v : h7.nx = vb) (hvb : vb < h10.nx) (hmb : mb < h10.nx) (hb : b = h10.nx)
    (hv : h10.blk vb = some (.row [.map (some mb)] 98 true)) (hm : h10.blk mb = some (mpOf encN (kvW ks))) (hg : g0.nx = h10.nx + 1 ∧ ∀ b, b < h10.nx → g0.blk b = h10.blk b) (ia : IA g0 b mv (List.replicate N 0)) :
    ∃ ws g', lpGo (f53H_l1 rn 1000 RG53 h7 mv N) 1000 [iv 0] g0 = some (.exit 0, ws, g') ∧ h10.nx ≤ g'.nx ∧ (∀ b, b < h10.nx → g'.blk b = h10.blk b) ∧ IA g' b mv (tabT ks N N) := by
  obtain ⟨ws', g', q1, q2, q3, q4, _⟩ := lp_for (k := 1000) (l := List.replicate N ()) (F := f53H_l1 rn 1000 RG53 h7 mv N) (fun _ _ (u : Unit) => u)
    (fun i _ ws g => h10.nx ≤ g.nx ∧ (∀ b, b < h10.nx → g.blk b = h10.blk b) ∧ IA g b mv (tabT ks N i) ∧ ws = [iv i]) 0 (ws := [iv 0]) (h := g0) (s0 := ()) ⟨by omega, hg.2, by unfold tabT; exact ia, rfl⟩ (by simp; omega)
    (fun _ ws g hI => by
      obtain ⟨_, _, _, rfl⟩ := hI
      unfold f53H_l1
      simp only [gv, List.getD_cons_zero, asI_int, List.length_replicate]
      rw [lt_f (by omega), ifB_false]; rfl)
    (fun i x _ ws g hx hI => by
      obtain ⟨c1, c2, c3, rfl⟩ := hI
      have hi : i < N := by
        have := (List.getElem?_eq_some_iff.1 hx).1
        simpa using this
      have hl := tabT_len ks N i
      have hbn := tabT_bnd (fun x hx => (hk x hx).1) N i
      have rg : Rg53 [pt vb 0, mv, iv (i : Nat)] g (RgH g b (tabT ks N i) i (sumT (tabT ks N i) i ks)) :=
        ⟨vb, mb, b, ks, tabT ks N i, i, mv, rfl, (c2 _ hvb).trans hv, (c2 _ hmb).trans hm, c3, by omega, by omega, by omega, hk, fun x hx => by
          obtain ⟨j, hj⟩ := List.mem_iff_getElem?.1 hx
          have := hbn j x hj
          have := (List.getElem?_eq_some_iff.1 hj).1
          omega, rfl⟩
      have hrg := RG53_of rg
      have hlp : lpGo RG53 1000 [pt vb 0, mv, iv (i : Nat)] g = some (.ret, [], RgH g b (tabT ks N i) i (sumT (tabT ks N i) i ks)) := by
        unfold lpGo
        rw [hrg]
        rfl
      refine ⟨[iv (i + 1 : Nat)], _, ?_, ?_, ?_, RgH_ia c3 _ _, rfl⟩
      · unfold f53H_l1
        simp only [gv, List.getD_cons_zero, asI_int, nx_eq, h7v]
        rw [lt_t (by omega), ifB_true, lp_eq hlp, add64 (by omega) (by omega)]
        rfl
      · show h10.nx ≤ g.nx + 1
        omega
      · intro q hq
        have : q ≠ b := by omega
        show (if q = b then _ else g.blk q) = _
        rw [if_neg this]
        exact c2 q hq)
  rw [List.length_replicate] at q4
  exact ⟨ws', g', q1, q2, q3, q4⟩
theorem s53_bad {n s t : Int} {sl : Value} {l : List Kl} {h : H} (hs : SlR h 56 3 sl (l.map Kl.cells)) (hp : pairP n l s t = false) : ∃ h', f53H RG53 rn 1000 (.agg #[iv n, sl]) s t h = some (.tuple #[iv 0, iv 2], h') ∧ Ext h h' := by
  let h3 : H := ((h.new (.row [iv n, sl] 31 true)).new (.row [iv s] 3 true)).new (.row [iv t] 3 true)
  have x3 : Ext h h3 := (((Ext.refl h).new' _).new' _).new' _
  have b0 : h3.blk h.nx = some (.row [iv n, sl] 31 true) := by
    show (if h.nx = h.nx + 1 + 1 then _ else if h.nx = h.nx + 1 then _ else if h.nx = h.nx then _ else _) = _
    rw [if_neg (by omega), if_neg (by omega), if_pos rfl]
  have b1 : h3.blk (h.nx + 1) = some (.row [iv s] 3 true) := by
    show (if h.nx + 1 = h.nx + 1 + 1 then _ else if h.nx + 1 = h.nx + 1 then _ else _) = _
    rw [if_neg (by omega), if_pos rfl]
  have b2 : h3.blk (h.nx + 1 + 1) = some (.row [iv t] 3 true) := by
    show (if h.nx + 1 + 1 = h.nx + 1 + 1 then _ else _) = _
    rw [if_pos rfl]
  refine ⟨h3, ?_, x3⟩
  unfold f53H
  rw [bx_eq, bx_eq, bx_eq]
  simp only [Value.cells, nx_eq, nx_new]
  show ld Try.prog h3 31 h.nx 0 _ = _
  rw [d31, rd_all (n := 2) b0 rfl, Option.bind_some]
  show ld Try.prog h3 3 (h.nx + 1) 0 _ = _
  rw [d3, cell_of b1]
  simp only [List.getElem?_cons_zero, Option.bind_some, asI_int]
  show ld Try.prog h3 3 (h.nx + 1 + 1) 0 _ = _
  rw [d3, cell_of b2]
  simp only [List.getElem?_cons_zero, Option.bind_some, asI_int]
  refine (k82 (hs.ext x3) _).trans ?_
  rw [asB_bool, hp]
  rfl
theorem wideF_pos {pl : List Kl} {s t : Int} (hb : ∀ w ∈ allWays pl s t, w.length ≠ 1 → 0 < betM pl s t w) (hlt : ∀ w, betM pl s t w < 2 ^ 7) : ∀ x ∈ (wideF pl s t).2, 0 < x ∧ x < 2 ^ 20 := by
  have : ∀ (ws : List (List Int)) (σ : Int × List Nat), (∀ w ∈ ws, w.length ≠ 1 → 0 < betM pl s t w) → (∀ x ∈ σ.2, 0 < x ∧ x < 2 ^ 20) → ∀ x ∈ (ws.foldl (wideS pl s t) σ).2, 0 < x ∧ x < 2 ^ 20 := by
    intro ws
    induction ws with
    | nil => intro σ _ h; exact h
    | cons w ws ih =>
      intro σ hw h
      rw [List.foldl_cons]
      refine ih _ (fun w' hw' => hw w' (List.mem_cons_of_mem _ hw')) ?_
      unfold wideS
      split
      · exact h
      · rename_i h1
        have := hw w List.mem_cons_self h1
        have := hlt w
        intro x hx
        unfold insK at hx
        simp only at hx
        split at hx
        · exact h x hx
        · rcases List.mem_append.1 hx with hx | hx
          · exact h x hx
          · rw [List.mem_singleton.1 hx]; omega
  exact this _ _ hb (by simp)
theorem s53H {n s t : Int} {sl : Value} {l : List Kl} {h : H} (hs : SlR h 56 3 sl (l.map Kl.cells)) (hp : pairP n l s t = true) (hb : ∀ w ∈ allWays l s t, w.length ≠ 1 → 0 < betM l s t w) :
    ∃ h', f53H RG53 rn 1000 (.agg #[iv n, sl]) s t h = some (.tuple #[iv (wideP n l s t), iv 0], h') ∧ Ext h h' := by
  obtain ⟨hv, hsn, htn, hst⟩ := pairP_parts hp
  obtain ⟨hn1, hn7, _⟩ := validP_ok hv
  let h3 : H := ((h.new (.row [iv n, sl] 31 true)).new (.row [iv s] 3 true)).new (.row [iv t] 3 true)
  have x3 : Ext h h3 := (((Ext.refl h).new' _).new' _).new' _
  let h6 : H := (h3.new (.row [iv 0] 3 true)).set (h.nx + 3) (.row [iv 0] 3 true)
  let h7 : H := h6.new (.mp [] 0)
  let h9 : H := (h7.new (.row [.map none] 98 true)).set (h.nx + 5) (.row [.map (some (h.nx + 4))] 98 true)
  have n3 : h3.nx = h.nx + 3 := rfl
  have n7 : h7.nx = h.nx + 5 := rfl
  have n9 : h9.nx = h.nx + 6 := rfl
  have c0 : h3.blk h.nx = some (.row [iv n, sl] 31 true) := by
    show (if h.nx = h.nx + 1 + 1 then _ else if h.nx = h.nx + 1 then _ else if h.nx = h.nx then _ else _) = _
    rw [if_neg (by omega), if_neg (by omega), if_pos rfl]
  have c1 : h3.blk (h.nx + 1) = some (.row [iv s] 3 true) := by
    show (if h.nx + 1 = h.nx + 1 + 1 then _ else if h.nx + 1 = h.nx + 1 then _ else _) = _
    rw [if_neg (by omega), if_pos rfl]
  have c2 : h3.blk (h.nx + 2) = some (.row [iv t] 3 true) := by
    show (if h.nx + 1 + 1 = h.nx + 1 + 1 then _ else _) = _
    rw [if_pos rfl]
  have lo9 : ∀ q, q < h.nx + 3 → h9.blk q = h3.blk q := by
    intro q hq
    show (if q = h.nx + 5 then _ else if q = h7.nx then _ else if q = h6.nx then _ else if q = h.nx + 3 then _ else if q = h3.nx then _ else h3.blk q) = _
    have e6 : h6.nx = h.nx + 4 := rfl
    rw [if_neg (by omega), if_neg (by omega), if_neg (by omega), if_neg (by omega), if_neg (by omega)]
  have e0 := (lo9 h.nx (by omega)).trans c0
  have e1 := (lo9 (h.nx + 1) (by omega)).trans c1
  have e2 := (lo9 (h.nx + 2) (by omega)).trans c2
  have e3 : h9.blk (h.nx + 3) = some (.row [iv 0] 3 true) := by
    show (if h.nx + 3 = h.nx + 5 then _ else if h.nx + 3 = h7.nx then _ else if h.nx + 3 = h6.nx then _ else if h.nx + 3 = h.nx + 3 then _ else _) = _
    have e6 : h6.nx = h.nx + 4 := rfl
    rw [if_neg (by omega), if_neg (by omega), if_neg (by omega), if_pos rfl]
  have e4 : h9.blk (h.nx + 4) = some (.mp [] 0) := by
    show (if h.nx + 4 = h.nx + 5 then _ else if h.nx + 4 = h7.nx then _ else if h.nx + 4 = h6.nx then _ else _) = _
    rw [if_neg (by omega), if_neg (by omega), if_pos (show h.nx + 4 = h6.nx from rfl)]
  have e5 : h9.blk (h.nx + 5) = some (.row [.map (some (h.nx + 4))] 98 true) := blk_set_self _ _ _
  have x9 : Ext h h9 := ⟨by omega, fun q hq => (lo9 q (by omega)).trans (x3.blk q hq)⟩
  have hs9 := hs.ext x9
  have hslb : ∀ b, blkOf sl = some b → b < h.nx := fun b hb => slR_bel hs hb
  have cb := wide_cb (g6 := h9) (db := h.nx + 3) (mb := h.nx + 4) (pb := h.nx) (vb := h.nx + 5) (sb := h.nx + 1) (tb := h.nx + 2) (by omega) (by omega) (by omega) ⟨by omega, by omega, by omega, e0⟩ ⟨by omega, by omega, by omega, e5⟩ ⟨by omega, by omega, by omega, e1⟩ ⟨by omega, by omega, by omega, e2⟩ hs9 (fun b hb => by have := hslb b hb; omega) hp
  obtain ⟨h10, D', q85, ⟨_, i2, i3, i4, i5⟩, n10, f10⟩ := s85 (sl := sl) (σ0 := ((0 : Int), ([] : List Nat))) cb (by rintro b (rfl | rfl) <;> omega) hv hsn hs9 (fun b hb e => by have := hslb b hb; omega) ⟨rfl, Nat.le_refl _, fun _ _ _ _ => rfl, e3, e4⟩ rfl rfl allWays_ok
  have hN : 0 < fullN n ∧ fullN n ≤ 128 := ⟨Nat.two_pow_pos _, by
    unfold fullN
    exact Nat.le_trans (Nat.pow_le_pow_right (by decide) (show n.toNat ≤ 7 by omega)) (by decide)⟩
  have hpos := wideF_pos hb (betM_lt hv s t)
  let g0 : H := h10.new (.row ((List.replicate (fullN n) 0).map iv) 3 true)
  have a0 := (i3 h.nx (by omega) (by omega) (by omega)).trans e0
  have a5 := (i3 (h.nx + 5) (by omega) (by omega) (by omega)).trans e5
  obtain ⟨ws1, g', q1, q2, q3, q4⟩ := l53 (mb := h.nx + 4) (vb := h.nx + 5) (b := h10.nx) (h7 := h7) (h10 := h10) (g0 := g0) hN hpos n7 (by omega) (by omega) rfl a5 i5 ⟨rfl, fun b hb => blk_new_ne _ _ (by omega)⟩ (ia_newz (by omega) h10 0)
  refine ⟨g', ?_, ⟨by omega, fun q hq => by rw [q3 q (by omega), f10 q (by omega) (by omega)]; exact x9.blk q hq⟩⟩
  have hst1 : wrc 1 (h3.new (.row [iv 0] 3 true)) (h.nx + 3) 0 (iv 0) = some h6 := by
    exact (wrc_one (c := [iv 0]) (e := 3) (blk_new_at _ _ rfl) rfl rfl (by simp)).trans rfl
  have hst2 : wrc 1 (h7.new (.row [.map none] 98 true)) (h.nx + 5) 0 (.map (some (h.nx + 4))) = some h9 := by
    exact (wrc_one (c := [.map none]) (e := 98) (blk_new_at _ _ rfl) rfl rfl (by simp)).trans rfl
  have k82' : ∀ (K : Value → H → Option (Value × H)), calls rn h3 82 [.agg #[iv n, sl], iv s, iv t] K = K (.bool true) h3 := fun K => by rw [k82 (hs.ext x3), hp]
  have hsh : AM.shl .i64 1 n = ((fullN n : Nat) : Int) := by
    have := shl1_nat (p := n.toNat) (by omega)
    rwa [Int.toNat_of_nonneg (by omega)] at this
  unfold f53H
  rw [bx_eq, bx_eq, bx_eq]
  simp only [Value.cells, nx_eq, nx_new]
  show ld Try.prog h3 31 h.nx 0 _ = _
  rw [d31, rd_all (n := 2) c0 rfl, Option.bind_some]
  show ld Try.prog h3 3 (h.nx + 1) 0 _ = _
  rw [d3, cell_of c1]
  simp only [List.getElem?_cons_zero, Option.bind_some, asI_int]
  show ld Try.prog h3 3 (h.nx + 1 + 1) 0 _ = _
  rw [d3, cell_of c2]
  simp only [List.getElem?_cons_zero, Option.bind_some, asI_int]
  refine (k82' _).trans ?_
  rw [asB_bool, Bool.not_true, ifB_false, al_eq]
  show st Try.prog (h3.new (.row [iv 0] 3 true)) 3 (h.nx + 3) 0 (iv 0) _ = _
  rw [w3, hst1, Option.bind_some, mkm_eq, al_eq]
  show st Try.prog (h7.new (.row [.map none] 98 true)) 98 (h.nx + 5) 0 (.map (some (h.nx + 4))) _ = _
  rw [w98, hst2, Option.bind_some]
  show ld Try.prog h9 31 h.nx 0 _ = _
  rw [d31, rd_all (n := 2) e0 rfl, Option.bind_some]
  show ld Try.prog h9 3 (h.nx + 1) 0 _ = _
  rw [d3, cell_of e1]
  simp only [List.getElem?_cons_zero, Option.bind_some, asI_int]
  show ld Try.prog h9 3 (h.nx + 2) 0 _ = _
  rw [d3, cell_of e2]
  simp only [List.getElem?_cons_zero, Option.bind_some, asI_int]
  refine (calls_eq (xs := [_, _, _, _]) q85).trans ?_
  show ld Try.prog h10 3 h.nx 0 _ = _
  rw [d3, cell_of a0]
  simp only [List.getElem?_cons_zero, Option.bind_some, asI_int]
  rw [nn_ge (by omega), hsh, mk25 (by omega)]
  show len (.slice (some ⟨h10.nx, 0, none⟩) (fullN n) (fullN n)) _ = _
  have hlen := (ia_newz (n := fullN n) (by omega) h10 0).len (R := Value × H)
  rw [hlen, List.length_replicate, lp_eq q1, onE_exit, if_pos rfl]
  show ld Try.prog g' 3 (h.nx + 3) 0 _ = _
  have b4 : g'.blk (h.nx + 3) = some (.row [iv (wideF l s t).1] 3 true) := (q3 _ (by omega)).trans i4
  rw [d3, cell_of b4]
  simp only [List.getElem?_cons_zero, Option.bind_some, asI_int]
  rw [hlen, List.length_replicate, sub64 (by omega) (by omega)]
  simp only [d3]
  have hgl := tabT_len (wideF l s t).2 (fullN n) (fullN n)
  have hget : (tabT (wideF l s t).2 (fullN n) (fullN n))[((fullN n : Nat) - 1 : Int).toNat]? = some ((tabT (wideF l s t).2 (fullN n) (fullN n)).getD (fullN n - 1) 0) := by
    rw [show ((fullN n : Nat) - 1 : Int).toNat = fullN n - 1 by omega, List.getD_eq_getElem?_getD, List.getElem?_eq_getElem (by omega)]
    rfl
  rw [q4.get (by omega) hget, asI_int]
  rfl
end Go.AM
end

section
namespace Go.AM
open Go.Proofs
theorem orW_bit (pl : List Kl) (i : Nat) : ∀ (w : List Int) (a : Nat), (w.foldl (fun a x => a ||| endsK pl x) a).testBit i = (a.testBit i || w.any fun x => (endsK pl x).testBit i) := by
  intro w
  induction w with
  | nil => intro a; simp
  | cons x w ih => intro a; rw [List.foldl_cons, ih, Nat.testBit_or, List.any_cons, Bool.or_assoc]
theorem endsK_bit {n : Int} {pl : List Kl} (hv : validP n pl = true) {x : Int} {c : Kl} (hc : pl[x.toNat]? = some c) {p : Int} (hp : 0 ≤ p) : (endsK pl x).testBit p.toNat = c.has p := by
  obtain ⟨h1, h2, h3, h4⟩ := validP_ok hv
  obtain ⟨a1, a2, _⟩ := okC_iff.1 (h4 _ c hc)
  unfold endsK
  rw [hc]
  simp only
  rw [Nat.testBit_or, Nat.testBit_two_pow, Nat.testBit_two_pow]
  unfold Kl.has
  have e1 : decide (c.a.toNat = p.toNat) = (c.a == p) := by
    rw [Bool.eq_iff_iff]; simp only [decide_eq_true_eq, beq_iff_eq]; omega
  have e2 : decide (c.b.toNat = p.toNat) = (c.b == p) := by
    rw [Bool.eq_iff_iff]; simp only [decide_eq_true_eq, beq_iff_eq]; omega
  rw [e1, e2]
/-- Who stands between. -/
theorem betM_bit {pl : List Kl} {s t : Int} (hs : 0 ≤ s) (ht : 0 ≤ t) {w : List Int} {i : Nat} : (betM pl s t w).testBit i = ((w.any fun x => (endsK pl x).testBit i) && !decide (s.toNat = i) && !decide (t.toNat = i)) := by
  unfold betM orW
  rw [testBit_without, testBit_without, orW_bit, Nat.testBit_two_pow, Nat.testBit_two_pow]
  simp
theorem has_or {c : Kl} {p q : Int} (h1 : c.has p = true) (h2 : c.has q = true) : q = p ∨ q = c.oth p := by
  unfold Kl.has at h1 h2
  unfold Kl.oth
  simp only [Bool.or_eq_true, beq_iff_eq] at h1 h2
  omega
theorem way_one_go {n s t : Int} {pl : List Kl} (hp : pairP n pl s t = true) {w : List Int} {f : Nat} {sd : Int} (hw : w ∈ waysF pl t (f + 1) s 0 sd) : betM pl s t w = 0 ↔ w.length = 1 := by
  obtain ⟨hv, hs, ht, hst⟩ := pairP_parts hp
  obtain ⟨hv1, hv2, hv3, hv4⟩ := validP_ok hv
  simp only [waysF] at hw
  rw [mem_app] at hw
  rcases hw with hw | ⟨j, c, hc, hw⟩
  · cases hw
  · rw [Nat.zero_add] at hw
    obtain ⟨a1, a2, a3, _⟩ := okC_iff.1 (hv4 _ c hc)
    unfold wayStep at hw
    split at hw
    · rename_i hg
      simp only [goes, Bool.and_eq_true] at hg
      have hhas := hg.1.2
      have hcj : pl[(j : Int).toNat]? = some c := by rw [Int.toNat_natCast]; exact hc
      split at hw
      · rename_i ho
        simp only [List.mem_singleton] at hw
        subst hw
        refine ⟨fun _ => rfl, fun _ => ?_⟩
        apply Nat.eq_of_testBit_eq
        intro i
        rw [betM_bit hs.1 ht.1, Nat.zero_testBit]
        simp only [List.any_cons, List.any_nil, Bool.or_false]
        have hb := endsK_bit hv hcj (p := (i : Int)) (by omega)
        rw [Int.toNat_natCast] at hb
        rw [hb]
        cases hh : c.has (i : Int) with
        | false => rfl
        | true =>
          rcases has_or hhas hh with e | e
          · rw [decide_eq_true (show s.toNat = i by omega)]; rfl
          · rw [decide_eq_true (show t.toNat = i by omega)]; simp
      · rename_i ho
        obtain ⟨w', hw', rfl⟩ := List.mem_map.1 hw
        obtain ⟨q1, _, _⟩ := waysF_ok (n := 0) _ _ _ _ w' hw'
        refine ⟨fun h => ?_, fun h => ?_⟩
        · exfalso
          have hq : 0 ≤ c.oth s ∧ c.oth s ≠ s ∧ c.has (c.oth s) = true := by
            unfold Kl.has Kl.oth at *
            simp only [Bool.or_eq_true, beq_iff_eq] at hhas ⊢
            omega
          have hb := betM_bit (pl := pl) hs.1 ht.1 (w := (j : Int) :: w') (i := (c.oth s).toNat)
          rw [h, Nat.zero_testBit, List.any_cons, endsK_bit hv hcj hq.1, hq.2.2, decide_eq_false (by omega), decide_eq_false (by omega)] at hb
          cases hb
        · cases w' with
          | nil => exact absurd rfl q1
          | cons _ _ => simp at h
    · cases hw
theorem way_one {n s t : Int} {pl : List Kl} (hp : pairP n pl s t = true) {w : List Int} (hw : w ∈ allWays pl s t) : betM pl s t w = 0 ↔ w.length = 1 := way_one_go (f := 31) hp hw
theorem way_pos {n s t : Int} {pl : List Kl} (hp : pairP n pl s t = true) : ∀ w ∈ allWays pl s t, w.length ≠ 1 → 0 < betM pl s t w := fun w hw h => by
  have := way_one hp hw
  omega
/-- What a way adds, as_ the document tells it. -/
def refS (pl : List Kl) (s t : Int) (σ : Int × List Nat) (w : List Int) : Int × List Nat := if betM pl s t w = 0 then (AM.add .i64 σ.1 1, σ.2) else (σ.1, insK σ.2 (betM pl s t w))
theorem ref_wide {n s t : Int} {pl : List Kl} (hp : pairP n pl s t = true) : (allWays pl s t).foldl (refS pl s t) (0, []) = wideF pl s t := by
  unfold wideF
  have : ∀ (ws : List (List Int)) (σ : Int × List Nat), (∀ w ∈ ws, w ∈ allWays pl s t) → ws.foldl (refS pl s t) σ = ws.foldl (wideS pl s t) σ := by
    intro ws
    induction ws with
    | nil => intro σ _; rfl
    | cons w ws ih =>
      intro σ h
      rw [List.foldl_cons, List.foldl_cons]
      have e : refS pl s t σ w = wideS pl s t σ w := by
        unfold refS wideS
        have := way_one hp (h w List.mem_cons_self)
        by_cases h1 : w.length = 1
        · rw [if_pos (this.2 h1), if_pos h1]
        · rw [if_neg (fun h => h1 (this.1 h)), if_neg h1]
      rw [e]
      exact ih _ fun w' hw' => h w' (List.mem_cons_of_mem _ hw')
  exact this _ _ fun w h => h
/-- So many sets, apart from each other, find room. -/
def hold (ks : List Nat) : Nat → Nat → Prop
  | 0, _ => True
  | m + 1, A => ∃ x ∈ ks, without x A = 0 ∧ hold ks m (without A x)
theorem without_comm (A x y : Nat) : without (without A x) y = without (without A y) x := by
  apply Nat.eq_of_testBit_eq
  intro i
  simp only [testBit_without]
  cases A.testBit i <;> cases x.testBit i <;> cases y.testBit i <;> rfl
theorem sub_without {x A y : Nat} : without x (without A y) = 0 ↔ without x A = 0 ∧ x &&& y = 0 := by
  rw [without_zero, without_zero]
  constructor
  · intro h
    refine ⟨fun i hi => ?_, ?_⟩
    · have := h i hi
      rw [testBit_without] at this
      simp only [Bool.and_eq_true] at this
      exact this.1
    · apply Nat.eq_of_testBit_eq
      intro i
      rw [Nat.testBit_and, Nat.zero_testBit]
      cases hx : x.testBit i with
      | false => rfl
      | true =>
        have := h i hx
        rw [testBit_without] at this
        simp only [Bool.and_eq_true, Bool.not_eq_true'] at this
        rw [this.2]; rfl
  · rintro ⟨h1, h2⟩ i hi
    rw [testBit_without, h1 i hi]
    have := congrArg (fun n => Nat.testBit n i) h2
    simp only [Nat.testBit_and, Nat.zero_testBit, hi, Bool.true_and] at this
    rw [this]; rfl
/-- The most, set by set as_ they come. -/
def packF : List Nat → Nat → Nat
  | [], _ => 0
  | x :: l, u => max (if x &&& u = 0 then 1 + packF l (u ||| x) else 0) (packF l u)
theorem hold_mono {ks ks' : List Nat} (h : ∀ x ∈ ks, x ∈ ks') : ∀ m A, hold ks m A → hold ks' m A := by
  intro m
  induction m with
  | zero => intro A _; trivial
  | succ m ih =>
    rintro A ⟨x, hx, h1, h2⟩
    exact ⟨x, h x hx, h1, ih _ h2⟩
theorem hold_cons {x : Nat} (hx : 0 < x) {l : List Nat} : ∀ m A, hold (x :: l) m A → hold l m A ∨ (without x A = 0 ∧ ∃ m', m = m' + 1 ∧ hold l m' (without A x)) := by
  intro m
  induction m with
  | zero => intro A _; exact .inl trivial
  | succ m ih =>
    rintro A ⟨y, hy, h1, h2⟩
    rcases List.mem_cons.1 hy with rfl | hy
    · rcases ih _ h2 with h | ⟨h, _⟩
      · exact .inr ⟨h1, m, rfl, h⟩
      · have := (sub_without.1 h).2
        rw [Nat.and_self] at this
        omega
    · rcases ih _ h2 with h | ⟨h, m', rfl, h3⟩
      · exact .inl ⟨y, hy, h1, h⟩
      · obtain ⟨h4, h5⟩ := sub_without.1 h
        refine .inr ⟨h4, m' + 1, rfl, y, hy, ?_, ?_⟩
        · rw [sub_without]
          exact ⟨h1, by rw [Nat.and_comm]; exact h5⟩
        · rw [without_comm]; exact h3
theorem pack_ge : ∀ (l : List Nat), (∀ x ∈ l, 0 < x) → ∀ m A u, A &&& u = 0 → hold l m A → m ≤ packF l u := by
  intro l
  induction l with
  | nil =>
    intro _ m A u _ h
    cases m with
    | zero => exact Nat.zero_le _
    | succ m =>
      obtain ⟨x, hx, _⟩ := h
      cases hx
  | cons x l ih =>
    intro hl m A u hA h
    have hl' := fun y hy => hl y (List.mem_cons_of_mem _ hy)
    unfold packF
    rcases hold_cons (hl x List.mem_cons_self) m A h with h | ⟨h1, m', rfl, h2⟩
    · have := ih hl' m A u hA h
      omega
    · have hA' : ∀ i, A.testBit i = true → u.testBit i = false := by
        intro i hi
        have := congrArg (fun n => Nat.testBit n i) hA
        simpa only [Nat.testBit_and, Nat.zero_testBit, hi, Bool.true_and] using this
      have hxu : x &&& u = 0 := by
        apply Nat.eq_of_testBit_eq
        intro i
        rw [Nat.testBit_and, Nat.zero_testBit]
        cases hx : x.testBit i with
        | false => rfl
        | true => rw [hA' i (without_zero.1 h1 i hx)]; rfl
      have := ih hl' m' (without A x) (u ||| x) (by
        apply Nat.eq_of_testBit_eq
        intro i
        rw [Nat.testBit_and, testBit_without, Nat.testBit_or, Nat.zero_testBit]
        cases ha : A.testBit i with
        | false => rfl
        | true => rw [hA' i ha]; cases x.testBit i <;> rfl) h2
      rw [if_pos hxu]
      omega
theorem pack_hold {F : Nat} : ∀ (l : List Nat), (∀ x ∈ l, without x F = 0) → ∀ u, hold l (packF l u) (without F u) := by
  intro l
  induction l with
  | nil => intro _ u; trivial
  | cons x l ih =>
    intro hl u
    have hl' := fun y hy => hl y (List.mem_cons_of_mem _ hy)
    have h2 := hold_mono (ks' := x :: l) (fun y hy => List.mem_cons_of_mem _ hy) _ _ (ih hl' u)
    unfold packF
    by_cases hxu : x &&& u = 0
    · rw [if_pos hxu]
      rcases Nat.le_total (1 + packF l (u ||| x)) (packF l u) with h | h
      · rw [Nat.max_eq_right h]; exact h2
      · rw [Nat.max_eq_left h, Nat.add_comm]
        refine ⟨x, List.mem_cons_self, sub_without.2 ⟨hl x List.mem_cons_self, hxu⟩, ?_⟩
        have h3 := hold_mono (ks' := x :: l) (fun y hy => List.mem_cons_of_mem _ hy) _ _ (ih hl' (u ||| x))
        have e : without F (u ||| x) = without (without F u) x := by
          apply Nat.eq_of_testBit_eq
          intro i
          simp only [testBit_without, Nat.testBit_or]
          cases F.testBit i <;> cases u.testBit i <;> cases x.testBit i <;> rfl
        rw [← e]; exact h3
    · rw [if_neg hxu, Nat.zero_max]; exact h2
/-- What all sets come to. -/
theorem sumT_facts {row : List Int} {set : Nat} : ∀ (l : List Nat) (a : Int × Nat),
    a.1 ≤ (l.foldl (stepT row set) a).1 ∧ (∀ x ∈ l, without x set = 0 → row.getD (without set x) 0 + 1 ≤ (l.foldl (stepT row set) a).1) ∧ ((l.foldl (stepT row set) a).1 = a.1 ∨ ∃ x ∈ l, without x set = 0 ∧ (l.foldl (stepT row set) a).1 = row.getD (without set x) 0 + 1) := by
  intro l
  induction l with
  | nil => intro a; exact ⟨Int.le_refl _, fun x hx => (by cases hx), .inl rfl⟩
  | cons y l ih =>
    intro a
    obtain ⟨h1, h2, h3⟩ := ih (stepT row set a y)
    simp only [List.foldl_cons]
    by_cases hy : without y set = 0
    · have e : (stepT row set a y).1 = max a.1 (row.getD (without set y) 0 + 1) := by unfold stepT; rw [if_pos hy]
      rw [e] at h1 h3
      refine ⟨by omega, fun x hx hxs => ?_, ?_⟩
      · rcases List.mem_cons.1 hx with rfl | hx
        · omega
        · exact h2 x hx hxs
      · rcases h3 with h3 | ⟨x, hx, h4, h5⟩
        · rcases Int.le_total a.1 (row.getD (without set y) 0 + 1) with h | h
          · exact .inr ⟨y, List.mem_cons_self, hy, by rw [h3]; omega⟩
          · exact .inl (by rw [h3]; omega)
        · exact .inr ⟨x, List.mem_cons_of_mem _ hx, h4, h5⟩
    · have e : stepT row set a y = a := by unfold stepT; rw [if_neg hy]
      rw [e] at h1 h2 h3 ⊢
      refine ⟨h1, fun x hx hxs => ?_, ?_⟩
      · rcases List.mem_cons.1 hx with rfl | hx
        · exact absurd hxs hy
        · exact h2 x hx hxs
      · exact h3.imp id fun ⟨x, hx, h⟩ => ⟨x, List.mem_cons_of_mem _ hx, h⟩
/-- The table holds the most. -/
theorem tab_hold {ks : List Nat} (hk : ∀ x ∈ ks, 0 < x) (N : Nat) : ∀ i, i ≤ N → (∀ j, i ≤ j → (tabT ks N i).getD j 0 = 0) ∧ ∀ j, j < i → ∃ m : Nat, (tabT ks N i).getD j 0 = m ∧ hold ks m j ∧ ∀ m', hold ks m' j → m' ≤ m := by
  intro i
  induction i with
  | zero =>
    intro _
    refine ⟨fun j _ => ?_, fun j h => by omega⟩
    unfold tabT
    rw [List.getD_eq_getElem?_getD, List.getElem?_replicate]
    split <;> rfl
  | succ i ih =>
    intro hi
    obtain ⟨h1, h2⟩ := ih (by omega)
    have hl := tabT_len ks N i
    have hne : ∀ j, j ≠ i → (tabT ks N (i + 1)).getD j 0 = (tabT ks N i).getD j 0 := by
      intro j hj
      rw [show tabT ks N (i + 1) = (tabT ks N i).set i (sumT (tabT ks N i) i ks).1 from rfl]
      rw [List.getD_eq_getElem?_getD, List.getElem?_set_ne (Ne.symm hj), List.getD_eq_getElem?_getD]
    refine ⟨fun j hj => by rw [hne j (by omega)]; exact h1 j (by omega), fun j hj => ?_⟩
    by_cases hji : j = i
    · subst hji
      have e : (tabT ks N (j + 1)).getD j 0 = (sumT (tabT ks N j) j ks).1 := by
        rw [tabT, List.getD_eq_getElem?_getD, List.getElem?_set_self (by omega)]
        rfl
      obtain ⟨f1, f2, f3⟩ := sumT_facts (row := tabT ks N j) (set := j) ks ((tabT ks N j).getD j 0, 0)
      have e' : (List.foldl (stepT (tabT ks N j) j) ((tabT ks N j).getD j 0, 0) ks).1 = (sumT (tabT ks N j) j ks).1 := rfl
      rw [e'] at f1 f2 f3
      have z := h1 j (Nat.le_refl _)
      simp only [z] at f1 f3
      have low : ∀ x ∈ ks, without x j = 0 → ∃ m : Nat, (tabT ks N j).getD (without j x) 0 = m ∧ hold ks m (without j x) ∧ ∀ m', hold ks m' (without j x) → m' ≤ m := fun x hx h => h2 _ (without_lt h (hk x hx))
      rw [e]
      refine ⟨(sumT (tabT ks N j) j ks).1.toNat, by omega, ?_, fun m' hm' => ?_⟩
      · rcases f3 with f3 | ⟨x, hx, hxj, f3⟩
        · rw [f3]; trivial
        · obtain ⟨m, g1, g2, g3⟩ := low x hx hxj
          rw [f3, g1, show ((m : Int) + 1).toNat = m + 1 by omega]
          exact ⟨x, hx, hxj, g2⟩
      · cases m' with
        | zero => exact Nat.zero_le _
        | succ m' =>
          obtain ⟨x, hx, hxj, hm⟩ := hm'
          obtain ⟨m, g1, g2, g3⟩ := low x hx hxj
          have := f2 x hx hxj
          have := g3 m' hm
          rw [g1] at *
          omega
    · rw [hne j hji]
      exact h2 j (by omega)
theorem tab_pack {ks : List Nat} {N : Nat} (hN : 0 < N) (hk : ∀ x ∈ ks, 0 < x ∧ without x (N - 1) = 0) : (tabT ks N N).getD (N - 1) 0 = (packF ks 0 : Nat) := by
  obtain ⟨_, h2⟩ := tab_hold (fun x hx => (hk x hx).1) N N (Nat.le_refl _)
  obtain ⟨m, e, h3, h4⟩ := h2 (N - 1) (by omega)
  rw [e]
  have a := pack_ge ks (fun x hx => (hk x hx).1) m (N - 1) 0 (Nat.and_zero _) h3
  have b := h4 _ (by
    have := pack_hold (F := N - 1) ks (fun x hx => (hk x hx).2) 0
    have e0 : without (N - 1) 0 = N - 1 := by
      unfold without
      simp
    rwa [e0] at this)
  omega
end Go.AM
end

section
namespace Go.AM
open Go.Proofs
theorem insK_nodup {ks : List Nat} {x : Nat} (h : ks.Nodup) : (insK ks x).Nodup := by
  unfold insK
  split
  · exact h
  · rename_i hx
    rw [List.nodup_append]
    refine ⟨h, by simp, fun a ha b hb => ?_⟩
    rw [List.mem_singleton.1 hb]
    intro e
    exact hx (e ▸ ha)
theorem nodup_bnd : ∀ (N : Nat) (l : List Nat), l.Nodup → (∀ x ∈ l, x < N) → l.length ≤ N := by
  intro N
  induction N with
  | zero =>
    intro l _ h
    cases l with
    | nil => simp
    | cons x l => have := h x List.mem_cons_self; omega
  | succ N ih =>
    intro l hn h
    have h1 := ih (l.erase N) (hn.erase N) (fun x hx => by
      have h2 := List.mem_of_mem_erase hx
      have h3 := h x h2
      have h4 : x ≠ N := fun e => by
        subst e
        exact (List.Nodup.not_mem_erase hn) hx
      omega)
    by_cases hm : N ∈ l
    · rw [List.length_erase_of_mem hm] at h1; omega
    · rw [List.erase_of_not_mem hm] at h1; omega
/-- What the sets are, at any time. -/
def KsOk (ks : List Nat) : Prop := ks.Nodup ∧ ∀ x ∈ ks, x < 2 ^ 7
theorem KsOk.len {ks : List Nat} (h : KsOk ks) : ks.length ≤ 128 := nodup_bnd _ _ h.1 h.2
theorem KsOk.ref {n s t : Int} {pl : List Kl} (hv : validP n pl = true) {σ : Int × List Nat} (h : KsOk σ.2) (w : List Int) : KsOk (refS pl s t σ w).2 := by
  unfold refS
  split
  · exact h
  · refine ⟨insK_nodup h.1, fun x hx => ?_⟩
    unfold insK at hx
    simp only at hx
    split at hx
    · exact h.2 x hx
    · rcases List.mem_append.1 hx with hx | hx
      · exact h.2 x hx
      · rw [List.mem_singleton.1 hx]; exact betM_lt hv s t w
abbrev ksI (ks : List Nat) : List Int := ks.map fun (k : Nat) => (k : Int)
theorem betM_or {n s t : Int} {pl : List Kl} (hp : pairP n pl s t = true) (w : List Int) : AM.andNot .i64 ((orW pl w : Nat) : Int) (AM.or .i64 (AM.shl .i64 1 s) (AM.shl .i64 1 t)) = ((betM pl s t w : Nat) : Int) := by
  obtain ⟨hv, hs, ht, hst⟩ := pairP_parts hp
  obtain ⟨hv1, hv2, hv3, hv4⟩ := validP_ok hv
  have ow := orW_lt hv w
  have ps := two_lt (p := s) (by omega)
  have pt_ := two_lt (p := t) (by omega)
  have e1 : AM.shl .i64 1 s = ((2 ^ s.toNat : Nat) : Int) := by
    have := shl1_nat (p := s.toNat) (by omega)
    rwa [Int.toNat_of_nonneg hs.1] at this
  have e2 : AM.shl .i64 1 t = ((2 ^ t.toNat : Nat) : Int) := by
    have := shl1_nat (p := t.toNat) (by omega)
    rwa [Int.toNat_of_nonneg ht.1] at this
  have hor := Nat.or_lt_two_pow ps pt_
  rw [e1, e2, or_nat (by omega) (by omega), andNot_nat (by omega) (by omega)]
  congr 1
  apply Nat.eq_of_testBit_eq
  intro i
  unfold betM
  simp only [testBit_without, Nat.testBit_or]
  cases (orW pl w).testBit i <;> cases (2 ^ s.toNat).testBit i <;> cases (2 ^ t.toNat).testBit i <;> rfl
theorem l922 {k : Nat} {wv sl : Value} {w : List Int} {pl : List Kl} {n : Int} {g h0 : H} (hv : validP n pl = true) (hw : SlR g 3 1 wv (cellsI w)) (hr : ∀ x ∈ w, 0 ≤ x ∧ x < pl.length) (hpb : g.blk h0.nx = some (.row [iv n, sl] 24 true)) (hsl : SlR g 59 3 sl (pl.map Kl.cells)) (hk : w.length < k) :
    ∃ ws, lpGo (f92_l2 rn k h0 wv w.length) k [iv 0, iv 0] g = some (.exit 2, ws, g) ∧ gv ws 0 = iv (orW pl w) := by
  have hlen := hw.lt62
  rw [List.length_map] at hlen
  obtain ⟨h1, h2, h3, h4⟩ := validP_ok hv
  obtain ⟨ws', g', q1, _, rfl, rfl⟩ := lp_for (k := k) (l := w) (F := f92_l2 rn k h0 wv w.length) (fun _ (x : Int) (a : Nat) => a ||| endsK pl x)
    (fun i a ws g' => a < 2 ^ 7 ∧ g' = g ∧ ws = [iv a, iv i]) 2 (ws := [iv 0, iv 0]) (h := g) (s0 := 0) ⟨by decide, rfl, rfl⟩ hk
    (fun a ws g' hI => by
      obtain ⟨_, rfl, rfl⟩ := hI
      unfold f92_l2
      simp only [gv, List.getD_cons_zero, List.getD_cons_succ, asI_int]
      rw [lt_f (by omega), ifB_false]; rfl)
    (fun i x a ws g' hx hI => by
      obtain ⟨ha, rfl, rfl⟩ := hI
      have hi := (List.getElem?_eq_some_iff.1 hx).1
      obtain ⟨x0, xl⟩ := hr x (List.mem_of_getElem? hx)
      obtain ⟨c, hc⟩ : ∃ c, pl[x.toNat]? = some c := ⟨_, List.getElem?_eq_getElem (by omega)⟩
      obtain ⟨a1, a2, _⟩ := okC_iff.1 (h4 _ c hc)
      have p1 := two_lt (p := c.a) (by omega)
      have p2 := two_lt (p := c.b) (by omega)
      have ee : endsK pl x = 2 ^ c.a.toNat ||| 2 ^ c.b.toNat := by unfold endsK; rw [hc]
      have eb : endsK pl x < 2 ^ 7 := endsK_lt hv x
      refine ⟨[iv (a ||| endsK pl x : Nat), iv (i + 1 : Nat)], g', ?_, Nat.or_lt_two_pow ha eb, rfl, by simp⟩
      unfold f92_l2
      simp only [gv, List.getD_cons_zero, List.getD_cons_succ, asI_int, asK_int, asP_ptr]
      rw [lt_t (by omega), ifB_true]
      simp only [d3, d22]
      rw [hw.c0 (by omega) (x := [iv x]) (by simp [hx]) rfl, asI_int]
      simp only [nx_eq, cell_of hpb, off, Nat.zero_add, List.getElem?_cons_succ, List.getElem?_cons_zero, Option.bind_some]
      rw [hsl.c0 x0 (x := c.cells) (by simp [hc]) (y := iv c.a) rfl, asI_int]
      rw [nn_ge a1.1]
      rw [hsl.cF x0 (x := c.cells) (by simp [hc]) (j := 1) (y := iv c.b) rfl, asI_int]
      rw [nn_ge a2.1]
      have e1 : AM.shl .i64 1 c.a = ((2 ^ c.a.toNat : Nat) : Int) := by
        have := shl1_nat (p := c.a.toNat) (by omega)
        rwa [Int.toNat_of_nonneg a1.1] at this
      have e2 : AM.shl .i64 1 c.b = ((2 ^ c.b.toNat : Nat) : Int) := by
        have := shl1_nat (p := c.b.toNat) (by omega)
        rwa [Int.toNat_of_nonneg a2.1] at this
      rw [e1, e2, or_nat (by omega) (by omega), ← ee, or_nat (by omega) (by omega), add64 (by omega) (by omega)]
      rfl)
  refine ⟨_, q1, ?_⟩
  rw [foldI_foldl]
  rfl
theorem l923 {k : Nat} {kv : Value} {w : List Int} {pl : List Kl} {n s t : Int} {g : H} {ks : List Nat} {ws0 : List Value} {q : Bool} (hp : pairP n pl s t = true) (hw0 : gv ws0 1 = kv) (hks : SlR g 3 1 kv (cellsI (ksI ks))) (hk : ks.length < k) :
    ∃ ws, lpGo (f92_l3 rn k s t ws0 ((orW pl w : Nat) : Int) ks.length) k [.bool q, iv 0] g = some (.exit 4, ws, g) ∧ gv ws 0 = .bool (q && !decide (betM pl s t w ∈ ks)) := by
  have hlen := hks.lt62
  simp only [List.length_map] at hlen
  obtain ⟨ws', g', q1, rfl, rfl⟩ := lp_for (k := k) (l := ks) (F := f92_l3 rn k s t ws0 ((orW pl w : Nat) : Int) ks.length) (fun _ (x : Nat) (a : Bool) => a && !decide (x = betM pl s t w))
    (fun i a ws g' => g' = g ∧ ws = [.bool a, iv i]) 4 (ws := [.bool q, iv 0]) (h := g) (s0 := q) ⟨rfl, rfl⟩ hk
    (fun a ws g' hI => by
      obtain ⟨rfl, rfl⟩ := hI
      unfold f92_l3
      simp only [gv, List.getD_cons_zero, List.getD_cons_succ, asI_int]
      rw [lt_f (by omega), ifB_false]; rfl)
    (fun i x a ws g' hx hI => by
      obtain ⟨rfl, rfl⟩ := hI
      have hi := (List.getElem?_eq_some_iff.1 hx).1
      refine ⟨[.bool (a && !decide (x = betM pl s t w)), iv (i + 1 : Nat)], g', ?_, rfl, by simp⟩
      unfold f92_l3
      rw [hw0]
      simp only [gv, List.getD_cons_zero, List.getD_cons_succ, asI_int, asK_int, asB_bool]
      rw [lt_t (by omega), ifB_true]
      simp only [d3]
      rw [hks.c0 (by omega) (x := [iv (x : Int)]) (by simp [hx]) rfl, asI_int, betM_or hp, add64 (by omega) (by omega)]
      cases a with
      | false => rw [ifB_false]; simp; rfl
      | true =>
        rw [ifB_true]
        by_cases hxb : x = betM pl s t w
        · rw [eq_t (by omega), decide_eq_true hxb]; rfl
        · rw [eq_f (by omega), decide_eq_false hxb]; rfl)
  refine ⟨_, q1, ?_⟩
  rw [foldI_foldl]
  show Value.bool _ = _
  congr 1
  have : ∀ (l : List Nat) (a : Bool), l.foldl (fun a x => a && !decide (x = betM pl s t w)) a = (a && !decide (betM pl s t w ∈ l)) := by
    intro l
    induction l with
    | nil => intro a; simp
    | cons x l ih =>
      intro a
      rw [List.foldl_cons, ih, Bool.and_assoc]
      congr 1
      by_cases hx : x = betM pl s t w
      · rw [decide_eq_true hx, decide_eq_true (List.mem_cons.2 (.inl hx.symm))]; rfl
      · rw [decide_eq_false hx]
        by_cases hm : betM pl s t w ∈ l
        · rw [decide_eq_true hm, decide_eq_true (List.mem_cons_of_mem _ hm)]; rfl
        · rw [decide_eq_false hm, decide_eq_false (fun h => (List.mem_cons.1 h).elim (fun e => hx e.symm) hm)]; rfl
  exact this ks q
theorem s92 {n s t : Int} {sl : Value} {l : List Kl} {h : H} (hs : SlR h 59 3 sl (l.map Kl.cells)) (hp : pairP n l s t = true) :
    ∃ v h', rn 92 #[.agg #[iv n, sl], iv s, iv t] h = some (.tuple #[v, iv (wideF l s t).1], h') ∧ Ext h h' ∧ SlR h' 3 1 v (cellsI (ksI (wideF l s t).2)) ∧ KsOk (wideF l s t).2 ∧ (allWays l s t).length < 4611686018427387904 := by
  obtain ⟨hv, hsn, htn, hst⟩ := pairP_parts hp
  let h1 := h.new (.row [iv n, sl] 24 true)
  have x1 : Ext h h1 := .new _ _
  have b1 : h1.blk h.nx = some (.row [iv n, sl] 24 true) := blk_new_self _ _
  have n1 : h1.nx = h.nx + 1 := rfl
  obtain ⟨v2, vs, h2, q98, x2, sv, ss⟩ := s98 (hs.ext x1) hp
  have hn2 := x2.nx
  have b2 : h2.blk h.nx = some (.row [iv n, sl] 24 true) := (x2.blk _ (by omega)).trans b1
  have hs2 := (hs.ext x1).ext x2
  have hlv := sv.lt62
  rw [List.length_map] at hlv
  have hvl : vs.length = (allWays l s t).length := ss.1
  obtain ⟨ws', g, q1, hx, kv, hkv, hko, rfl⟩ := lp_for (k := vs.length + 1000) (l := allWays l s t) (F := f92_l1 rn (vs.length + 1000) s t h v2 vs.length) (fun _ w σ => refS l s t σ w)
    (fun i σ ws g => Ext h2 g ∧ ∃ kv, AqR h2.nx g 3 1 kv (cellsI (ksI σ.2)) ∧ KsOk σ.2 ∧ ws = [iv σ.1, kv, iv i]) 0 (ws := [iv 0, .slice none 0 0, iv 0]) (h := h2) (s0 := ((0 : Int), ([] : List Nat))) ⟨.refl _, _, .nil, ⟨List.nodup_nil, fun x hx => by cases hx⟩, rfl⟩ (by omega)
    (fun σ ws g hI => by
      obtain ⟨_, kv, _, _, rfl⟩ := hI
      unfold f92_l1
      simp only [gv, List.getD_cons_zero, List.getD_cons_succ, asI_int]
      rw [lt_f (by omega), ifB_false]; rfl)
    (fun i w σ ws g hw hI => by
      obtain ⟨hx, kv, hkv, hko, rfl⟩ := hI
      have hi := (List.getElem?_eq_some_iff.1 hw).1
      have hwm := List.mem_of_getElem? hw
      obtain ⟨hw0, hwl, hwr⟩ := allWays_ok w hwm
      obtain ⟨wv, hwv⟩ : ∃ wv, vs[i]? = some wv := ⟨_, List.getElem?_eq_getElem (by omega)⟩
      have swv : SlR g 3 1 wv (cellsI w) := (ss.2 i wv w hwv hw).ext hx
      have bg : g.blk h.nx = some (.row [iv n, sl] 24 true) := (hx.blk _ (by omega)).trans b2
      have kl := hko.len
      obtain ⟨ws2, p1, p2⟩ := l922 (k := vs.length + 1000) (h0 := h) hv swv hwr bg (hs2.ext hx) (by omega)
      have bl := betM_lt hv s t w
      have hgx := hx.nx
      have hlenw : ∀ {T : Type} (K : Int → Option T), len wv K = K w.length := fun K => by rw [swv.len]; simp
      have hlenk : ∀ {T : Type} (K : Int → Option T), len kv K = K σ.2.length := fun K => by rw [hkv.slR.len]; simp
      have kr : KsOk (refS l s t σ w).2 := hko.ref hv w
      obtain ⟨ws3, p3, p4⟩ := l923 (k := vs.length + 1000) (w := w) (q := !AM.eq ((betM l s t w : Nat) : Int) 0) (ws0 := [iv σ.1, kv, iv i]) hp rfl hkv.slR (by omega)
      have start : f92_l1 rn (vs.length + 1000) s t h v2 vs.length [iv σ.1, kv, iv i] g =
          ifB (AM.eq ((betM l s t w : Nat) : Int) 0) (some (.normal, [iv (AM.add .i64 σ.1 1), kv, iv (i + 1 : Nat)], g))
            (ifB (!decide (betM l s t w ∈ σ.2)) (bls Try.prog g 25 1 [(0, iv (betM l s t w : Nat))] fun v12 h10 => app Try.prog h10 25 25 kv v12 fun v13 h11 => some (.normal, [iv σ.1, v13, iv (i + 1 : Nat)], h11)) (some (.normal, [iv σ.1, kv, iv (i + 1 : Nat)], g))) := by
        unfold f92_l1
        simp only [gv, List.getD_cons_zero, List.getD_cons_succ, asI_int, asK_int]
        rw [lt_t (by omega), ifB_true]
        simp only [d25]
        rw [(sv.ext hx).c0 (by omega) (x := [wv]) (by simp [hwv]) rfl, hlenw, lp_eq p1, onE_exit, if_pos rfl, nn_ge hsn.1, nn_ge htn.1]
        rw [show ws2.getD 0 undef = gv ws2 0 from rfl, p2, asI_int, hlenk, betM_or hp, lp_eq p3, onE_exit, if_pos rfl, show ws3.getD 0 undef = gv ws3 0 from rfl, p4, add64 (a := (i : Int)) (by omega) (by omega)]
        by_cases hb : betM l s t w = 0
        · rw [eq_t (by omega), ifB_true, ifB_true]
          simp [asB]
          rfl
        · rw [eq_f (by omega), ifB_false, ifB_false, asB_bool]
          rfl
      by_cases hb : betM l s t w = 0
      · have er : refS l s t σ w = (AM.add .i64 σ.1 1, σ.2) := by unfold refS; rw [if_pos hb]
        refine ⟨_, g, by rw [start, eq_t (by omega), ifB_true], hx, kv, by rw [er]; exact hkv, kr, by rw [er]⟩
      · have er : refS l s t σ w = (σ.1, insK σ.2 (betM l s t w)) := by unfold refS; rw [if_neg hb]
        by_cases hm : betM l s t w ∈ σ.2
        · have ei : insK σ.2 (betM l s t w) = σ.2 := by unfold insK; rw [if_pos hm]
          refine ⟨_, g, by rw [start, eq_f (by omega), ifB_false, decide_eq_true hm, Bool.not_true, ifB_false], hx, kv, by rw [er, ei]; exact hkv, kr, by rw [er]⟩
        · have ei : insK σ.2 (betM l s t w) = σ.2 ++ [betM l s t w] := by unfold insK; rw [if_neg hm]
          obtain ⟨v', h9, e9, a9, n9, k9, b9, hb9, hb9'⟩ := hkv.push app25 app25 (bls25 ((betM l s t w : Nat) : Int)) rfl rfl (by simp; omega) hx.nx
          refine ⟨_, h9, by rw [start, eq_f (by omega), ifB_false, decide_eq_false hm, Bool.not_false, ifB_true]; exact e9 _, ⟨by omega, fun q hq => ?_⟩, v', by rw [er, ei]; simpa using a9, kr, by rw [er]⟩
          rw [k9 q (by omega) (fun e => by have := (hkv.blkOf e).1; omega), hx.blk _ hq])
  rw [foldI_foldl, ref_wide hp] at hkv hko q1
  refine ⟨kv, g, x92 (k := vs.length + 1000) ?_ hkv.slR.notR2, (x1.trans x2).trans hx, hkv.slR, hko, by omega⟩
  unfold f92
  rw [bx_eq, nx_eq, show (Value.agg #[iv n, sl]).cells.toList = [iv n, sl] from rfl]
  show ld Try.prog h1 24 h.nx 0 _ = _
  rw [d24, rd_all (n := 2) b1 rfl, Option.bind_some]
  refine (calls_eq (xs := [_, _, _]) q98).trans ?_
  rw [sv.len, List.length_map, lp_eq q1, onE_exit, if_pos rfl]
  rfl
end Go.AM
end

section
namespace Go.AM
open Go.Proofs
theorem pack_le : ∀ (l : List Nat) (u : Nat), packF l u ≤ l.length := by
  intro l
  induction l with
  | nil => intro u; exact Nat.le_refl _
  | cons x l ih =>
    intro u
    have h1 := ih u
    have h2 := ih (u ||| x)
    simp only [packF, List.length_cons]
    split <;> omega
theorem betM_ltn {n s t : Int} {pl : List Kl} (hv : validP n pl = true) (w : List Int) : betM pl s t w < 2 ^ n.toNat := by
  obtain ⟨h1, h2, h3, h4⟩ := validP_ok hv
  refine without_le _ _ (without_le _ _ ?_)
  unfold orW
  have : ∀ (w : List Int) (a : Nat), a < 2 ^ n.toNat → w.foldl (fun a x => a ||| endsK pl x) a < 2 ^ n.toNat := by
    intro w
    induction w with
    | nil => intro a h; exact h
    | cons x w ih =>
      intro a h
      refine ih _ (Nat.or_lt_two_pow h ?_)
      unfold endsK
      split
      · rename_i c hc
        obtain ⟨a1, a2, _⟩ := okC_iff.1 (h4 _ c hc)
        exact Nat.or_lt_two_pow (Nat.pow_lt_pow_right (by decide) (by omega)) (Nat.pow_lt_pow_right (by decide) (by omega))
      · exact Nat.two_pow_pos _
  exact this w 0 (Nat.two_pow_pos _)
theorem wideF_mem {pl : List Kl} {s t : Int} : ∀ x ∈ (wideF pl s t).2, ∃ w ∈ allWays pl s t, w.length ≠ 1 ∧ x = betM pl s t w := by
  have : ∀ (ws : List (List Int)) (σ : Int × List Nat), (∀ w ∈ ws, w ∈ allWays pl s t) → (∀ x ∈ σ.2, ∃ w ∈ allWays pl s t, w.length ≠ 1 ∧ x = betM pl s t w) → ∀ x ∈ (ws.foldl (wideS pl s t) σ).2, ∃ w ∈ allWays pl s t, w.length ≠ 1 ∧ x = betM pl s t w := by
    intro ws
    induction ws with
    | nil => intro σ _ h; exact h
    | cons w ws ih =>
      intro σ hw h
      rw [List.foldl_cons]
      refine ih _ (fun w' hw' => hw w' (List.mem_cons_of_mem _ hw')) ?_
      unfold wideS
      split
      · exact h
      · rename_i h1
        intro x hx
        unfold insK at hx
        simp only at hx
        split at hx
        · exact h x hx
        · rcases List.mem_append.1 hx with hx | hx
          · exact h x hx
          · exact ⟨w, hw w List.mem_cons_self, h1, List.mem_singleton.1 hx⟩
  exact this _ _ (fun w h => h) (by simp)
theorem sub_full {x m : Nat} (h : x < 2 ^ m) : without x (2 ^ m - 1) = 0 := by
  rw [without_zero]
  intro i hi
  rw [Nat.testBit_two_pow_sub_one]
  refine decide_eq_true (Nat.lt_of_not_le fun hc => ?_)
  have := Nat.testBit_lt_two_pow (Nat.lt_of_lt_of_le h (Nat.pow_le_pow_right (by decide) hc))
  rw [this] at hi
  cases hi
/-- The width is what the document says. -/
theorem wide_ref {n s t : Int} {pl : List Kl} (hp : pairP n pl s t = true) : wideP n pl s t = AM.add .i64 (wideF pl s t).1 (packF (wideF pl s t).2 0 : Nat) := by
  have hv := (pairP_parts hp).1
  unfold wideP fullN
  rw [tab_pack (Nat.two_pow_pos _) fun x hx => ?_]
  obtain ⟨w, hw, h1, rfl⟩ := wideF_mem x hx
  exact ⟨way_pos hp w hw h1, sub_full (betM_ltn hv w)⟩
end Go.AM
end

section
namespace Go.AM
section
variable {P : Program} {E : Env} {rec : Rec} {k : Nat}
open Classical in
/-- A function that turns nothing that was there, told so. -/
noncomputable def smR (rec : Rec) (F : FuncId) (args : Array Value) (h : H) : Option (Value × H) :=
  match rec F args h with
  | some (v, h1) => if Ext h h1 then some (v, ⟨h1.blk, h1.nx, h.wr⟩) else none
  | none => none
theorem smR_sure (hrec : SoundR P E rec) {F : FuncId} {args : Array Value} {h h' : H} {v : Value} (e : smR rec F args h = some (v, h')) : Sure P E F args h v h' := by
  unfold smR at e
  split at e
  · rename_i v1 h1 he
    split at e
    · rename_i x
      simp only [Option.some.injEq, Prod.mk.injEq] at e
      obtain ⟨rfl, rfl⟩ := e
      have gr := hrec.grow _ _ _ _ _ he
      refine ⟨hrec.fn _ _ _ _ _ he, ⟨x.nx, Nat.le_refl _, fun _ b hb => x.blk b hb, gr.2.2.2⟩, fun ι w args' r ha => (hrec.calls _ _ _ _ _ he ι w args' r ha).mono ?_⟩
      rintro e2 w' ⟨v', ι', rfl, t, r1, hv⟩
      exact ⟨v', ι', rfl, ⟨t.nx, t.ext, t.os, t.tape, t.output, t.size, t.fr, t.own⟩, ⟨r1.dom, r1.blk, r1.inj, r1.ng, r1.glob, r1.globB, r1.globO⟩, hv⟩
    · cases e
  · cases e
/-- A function that answers something plain, and leaves what was there. -/
theorem body_sure (hmix : P.follows .mixedOrders = true) (hrec : SoundR P E rec) {f : FuncId} {args : List SV} {h h1 : H} {v : Value} (hc : bodyT P E SC (XC P rec k) f (Value × H) args h (fun v h => some (v, h)) = some (v, h1)) (hp : plainO v = true) (x : Ext h h1) : Sure P E f (args.map SV.val).toArray h v h := by
  obtain ⟨v1, h2, g1, g2⟩ := bodyT_some hc
  cases g2
  have b := body_sound hrec (draw_ok hmix hrec) g1
  exact Sure.trunc ⟨b.1, fun ι w args' r ha => b.2.2 ι w args' r ha⟩ hp fun q hq => x.blk q hq
theorem calls_over {F f : FuncId} {g : Array Value → H → Option (Value × H)} {h : H} {xs : List Value} {R : Type} {K : Value → H → Option R} (hf : f ≠ F) : calls (over rec F g) h f xs K = calls rec h f xs K := by
  unfold calls
  rw [over_ne hf]
theorem calls_at {F : FuncId} {g : Array Value → H → Option (Value × H)} {h h' : H} {v : Value} {xs : List Value} {R : Type} {K : Value → H → Option R} (e : g xs.toArray h = some (v, h')) : calls (over rec F g) h F xs K = K v h' := by
  unfold calls
  rw [over_at, e]
  rfl
end
end Go.AM
end

section
namespace Go.AM
open Go.Proofs
theorem wide_has {pl : List Kl} {s t : Int} {w : List Int} (hw : w ∈ allWays pl s t) (h1 : w.length ≠ 1) : betM pl s t w ∈ (wideF pl s t).2 := by
  have ins : ∀ (ks : List Nat) (x y : Nat), y ∈ ks ∨ y = x → y ∈ insK ks x := by
    intro ks x y h
    unfold insK
    split
    · rename_i hx
      rcases h with h | rfl
      · exact h
      · exact hx
    · rw [List.mem_append, List.mem_singleton]; exact h
  have keep : ∀ (ws : List (List Int)) (σ : Int × List Nat) (y : Nat), y ∈ σ.2 → y ∈ (ws.foldl (wideS pl s t) σ).2 := by
    intro ws
    induction ws with
    | nil => intro σ y h; exact h
    | cons w ws ih =>
      intro σ y h
      rw [List.foldl_cons]
      refine ih _ _ ?_
      unfold wideS
      split
      · exact h
      · exact ins _ _ _ (.inl h)
  have : ∀ (ws : List (List Int)) (σ : Int × List Nat), w ∈ ws → betM pl s t w ∈ (ws.foldl (wideS pl s t) σ).2 := by
    intro ws
    induction ws with
    | nil => intro σ h; cases h
    | cons w' ws ih =>
      intro σ h
      rw [List.foldl_cons]
      rcases List.mem_cons.1 h with rfl | h
      · refine keep _ _ _ ?_
        unfold wideS
        rw [if_neg h1]
        exact ins _ _ _ (.inr rfl)
      · exact ih _ h
  exact this _ _ hw
end Go.AM
end

section
namespace Go.AM
open Go.Proofs
theorem cnt_fold {pl : List Kl} {s t : Int} : ∀ (ws : List (List Int)) (σ : Int × List Nat), 0 ≤ σ.1 → σ.1 + ws.length < 9223372036854775807 → (ws.foldl (wideS pl s t) σ).1 = σ.1 + ws.countP (fun w => decide (w.length = 1)) := by
  intro ws
  induction ws with
  | nil => intro σ _ _; simp
  | cons w ws ih =>
    intro σ h0 h1
    simp only [List.length_cons] at h1
    rw [List.foldl_cons, List.countP_cons]
    by_cases hw : w.length = 1
    · have e : wideS pl s t σ w = (σ.1 + 1, σ.2) := by unfold wideS; rw [if_pos hw, add64 (by omega) (by omega)]
      rw [e, ih _ (by simp only; omega) (by simp only; omega), decide_eq_true hw, if_pos rfl]
      simp only
      omega
    · have e : (wideS pl s t σ w).1 = σ.1 := by unfold wideS; rw [if_neg hw]
      rw [ih _ (by rw [e]; exact h0) (by rw [e]; omega), e, decide_eq_false hw]
      simp
end Go.AM
end

section
namespace Go.AM
open Go.Proofs
/-- Calls of arrive leave what was there. -/
noncomputable def rcB : Rec := over rn 81 (smR rn 81)
end Go.AM
end

section
namespace Go.AM
open Go.Proofs
open Classical in
/-- Wide, told. -/
noncomputable def g53 (args : Array Value) (h : H) : Option (Value × H) :=
  match args.toList with
  | [v0, .int .i64 n0, .int .i64 n1] =>
    match f53H RG53 rn 1000 v0 n0 n1 h with
    | some (v, h1) => if plainO v = true ∧ Ext h h1 then some (v, h) else none
    | none => none
  | _ => none
open Classical in
/-- Block, told. -/
noncomputable def g54 (args : Array Value) (h : H) : Option (Value × H) :=
  match args.toList with
  | [v0, .int .i64 n0, .int .i64 n1] =>
    match f54 rcB 1000 v0 n0 n1 h with
    | some (v, h1) => if plainO v = true ∧ Ext h h1 then some (v, h) else none
    | none => none
  | _ => none
theorem g53_of {v0 v : Value} {n0 n1 : Int} {h h1 : H} (e : f53H RG53 rn 1000 v0 n0 n1 h = some (v, h1)) (hp : plainO v = true) (x : Ext h h1) : g53 #[v0, iv n0, iv n1] h = some (v, h) := by
  unfold g53
  simp only [e, if_pos (And.intro hp x)]
theorem g53_sure (hmix : Try.prog.follows .mixedOrders = true) {args : Array Value} {h h' : H} {v : Value} (e : g53 args h = some (v, h')) : Sure Try.prog E0 53 args h v h' := by
  have hrec : SoundR Try.prog E0 rn := run_sound hmix
  obtain ⟨s, hs, h1, h2, h3, h4, h5, h6, h7, h8⟩ := rg53_is
  have hrg := rg53_ok hmix hs h1 h2 h3 h4 h5 h6 h7 h8
  unfold g53 at e
  split at e
  · rename_i v0 n0 n1 ha
    split at e
    · rename_i v1 hh e1
      split at e
      · rename_i hx
        simp only [Option.some.injEq, Prod.mk.injEq] at e
        obtain ⟨rfl, rfl⟩ := e
        have e2 := e1
        rw [← e53H] at e2
        have b := bodyH_calls hrec (draw_ok hmix hrec) hs hrg e2
        have ea : args = #[v0, iv n0, iv n1] := by
          cases args
          simp only at ha
          rw [ha]
        rw [ea]
        exact Sure.trunc b hx.1 fun q hq => hx.2.blk q hq
      · cases e
    · cases e
  · cases e
theorem rcB_sound (hmix : Try.prog.follows .mixedOrders = true) : SoundR Try.prog E0 rcB := over_sound (run_sound hmix) fun _ _ _ _ e => smR_sure (run_sound hmix) e
theorem g54_sure (hmix : Try.prog.follows .mixedOrders = true) {args : Array Value} {h h' : H} {v : Value} (e : g54 args h = some (v, h')) : Sure Try.prog E0 54 args h v h' := by
  unfold g54 at e
  split at e
  · rename_i v0 n0 n1 ha
    split at e
    · rename_i v1 hh e1
      split at e
      · rename_i hx
        simp only [Option.some.injEq, Prod.mk.injEq] at e
        obtain ⟨rfl, rfl⟩ := e
        have e2 := e1
        rw [← e54] at e2
        have b := body_sure hmix (rcB_sound hmix) e2 hx.1 hx.2
        have ea : args = #[v0, iv n0, iv n1] := by
          cases args
          simp only at ha
          rw [ha]
        rw [ea]
        exact b
      · cases e
    · cases e
  · cases e
/-- Wide and Block told. -/
noncomputable def rcW : Rec := over (over rn 53 g53) 54 g54
theorem rcW_sound (hmix : Try.prog.follows .mixedOrders = true) : SoundR Try.prog E0 rcW :=
  over_sound (over_sound (run_sound hmix) fun _ _ _ _ e => g53_sure hmix e) fun _ _ _ _ e => g54_sure hmix e
theorem rcW_ne {f : FuncId} (h1 : f ≠ 53) (h2 : f ≠ 54) {h : H} {xs : List Value} {R : Type} {K : Value → H → Option R} : calls rcW h f xs K = calls rn h f xs K := (calls_over h2).trans (calls_over h1)
/-- What Wide answers. -/
def widA (n : Int) (l : List Kl) (s t : Int) : Int × Int := if pairP n l s t = true then (wideP n l s t, 0) else (0, 2)
theorem k53 {n s t : Int} {sl : Value} {l : List Kl} {h : H} (hs : SlR h 56 3 sl (l.map Kl.cells)) {R : Type} (K : Value → H → Option R) : calls rcW h 53 [.agg #[iv n, sl], iv s, iv t] K = K (.tuple #[iv (widA n l s t).1, iv (widA n l s t).2]) h := by
  have : ∃ h', f53H RG53 rn 1000 (.agg #[iv n, sl]) s t h = some (.tuple #[iv (widA n l s t).1, iv (widA n l s t).2], h') ∧ Ext h h' := by
    unfold widA
    cases hp : pairP n l s t with
    | false => exact s53_bad hs hp
    | true => exact s53H hs hp (way_pos hp)
  obtain ⟨h', e, x⟩ := this
  exact (calls_over (by decide)).trans (calls_at (g53_of e rfl x))
end Go.AM
end

section
namespace Go.AM
open Go.Proofs
/-- Ways apart from each other are no more than flow. -/
theorem ways_mc {n s t : Int} {l : List Kl} (v : VP n l) (hs : 0 ≤ s ∧ s < n) (hst : s ≠ t) {W : List (List Int)} (hw : ∀ w ∈ W, w ∈ allWays l s t) (hd : W.Pairwise fun w u => ∀ i ∈ w, i ∉ u) (hl : W.length ≤ 1000) : W.length ≤ mcP l s t 0 := by
  unfold mcP
  refine GM_ge (k := W.length) (ws := fun j => ((W[j]?).getD []).map Int.toNat) (fun j hj => ?_) (fun j j' hj hj' hne i hi hi' => ?_) hl
  · rw [List.getElem?_eq_getElem hj, Option.getD_some]
    exact way_walk v hs hst (hw _ (List.getElem_mem hj)) (fun i _ => by simp [goneD])
  · rw [List.getElem?_eq_getElem hj, Option.getD_some] at hi
    rw [List.getElem?_eq_getElem hj', Option.getD_some] at hi'
    obtain ⟨x, hx, ex⟩ := List.mem_map.1 hi
    obtain ⟨y, hy, ey⟩ := List.mem_map.1 hi'
    have x0 := ((allWays_ok _ (hw _ (List.getElem_mem hj))).2.2 x hx).1
    have y0 := ((allWays_ok _ (hw _ (List.getElem_mem hj'))).2.2 y hy).1
    have exy : x = y := by omega
    subst exy
    have pw := List.pairwise_iff_getElem.1 hd
    rcases Nat.lt_or_gt_of_ne hne with h | h
    · exact pw j j' hj hj' h x hx hy
    · exact pw j' j hj' hj h x hy hx
theorem count_app {α β : Type} {st : Nat → α → List β} {p : β → Bool} {q : α → Bool} : ∀ (l : List α) (i : Nat) (acc : List β), (∀ j c, c ∈ l → (st j c).countP p = if q c = true then 1 else 0) → (foldI (fun i c acc => acc ++ st i c) l i acc).countP p = acc.countP p + l.countP q := by
  intro l
  induction l with
  | nil => intro i acc _; simp [foldI]
  | cons c l ih =>
    intro i acc h
    simp only [foldI]
    rw [ih (i + 1) _ (fun j d hd => h j d (List.mem_cons_of_mem _ hd)), List.countP_append, h i c List.mem_cons_self, List.countP_cons]
    omega
theorem count_one {n s t : Int} {pl : List Kl} (hp : pairP n pl s t = true) {f : Nat} : (waysF pl t (f + 1) s 0 (shl .i64 1 s)).countP (fun w => decide (w.length = 1)) = pl.countP fun c => c.has s && c.has t := by
  obtain ⟨hv, hs, ht, hst⟩ := pairP_parts hp
  obtain ⟨hv1, hv2, hv3, hv4⟩ := validP_ok hv
  simp only [waysF]
  rw [count_app (q := fun c => c.has s && c.has t) pl 0 [] (fun j c hc => ?_), List.countP_nil, Nat.zero_add]
  obtain ⟨i, hi⟩ := List.mem_iff_getElem?.1 hc
  obtain ⟨a1, a2, a3, a4, a5⟩ := okC_iff.1 (hv4 _ c hi)
  have hin : ∀ p, 0 ≤ p → p < n → p ≠ s → inP (shl .i64 1 s) p = false := by
    intro p h0 h1 hne
    have e1 : AM.shl .i64 1 s = ((2 ^ s.toNat : Nat) : Int) := by
      have := shl1_nat (p := s.toNat) (by omega)
      rwa [Int.toNat_of_nonneg hs.1] at this
    rw [e1, inP_nat (two_lt (by omega)) (by omega), Nat.testBit_two_pow]
    exact decide_eq_false (by omega)
  unfold wayStep
  by_cases hg : goes c s 0 (shl .i64 1 s) = true
  · rw [if_pos hg]
    simp only [goes, Bool.and_eq_true] at hg
    have hhas := hg.1.2
    by_cases ho : c.oth s = t
    · rw [if_pos ho]
      have hq : (c.has s && c.has t) = true := by
        unfold Kl.has Kl.oth at *
        simp only [Bool.or_eq_true, beq_iff_eq, Bool.and_eq_true] at hhas ⊢
        omega
      rw [if_pos hq]
      rfl
    · rw [if_neg ho]
      have hq : ¬ (c.has s && c.has t) = true := by
        intro h
        simp only [Bool.and_eq_true] at h
        rcases has_or h.1 h.2 with e | e
        · exact hst e.symm
        · exact ho e.symm
      rw [if_neg hq, List.countP_eq_zero]
      intro w hw
      obtain ⟨w', hw', rfl⟩ := List.mem_map.1 hw
      obtain ⟨q1, _, _⟩ := waysF_ok (n := 0) _ _ _ _ w' hw'
      cases w' with
      | nil => exact absurd rfl q1
      | cons _ _ => simp
  · rw [if_neg hg]
    have hq : ¬ (c.has s && c.has t) = true := by
      intro h
      simp only [Bool.and_eq_true] at h
      refine hg ?_
      have ho : c.oth s = t := by
        rcases has_or h.1 h.2 with e | e
        · exact absurd e.symm hst
        · exact e.symm
      simp only [goes, Bool.and_eq_true, Bool.not_eq_true', decide_eq_false_iff_not]
      exact ⟨⟨by omega, h.1⟩, by rw [ho]; exact hin t ht.1 ht.2 (Ne.symm hst)⟩
    rw [if_neg hq]
    rfl
/-- How many calls are direct. -/
def dirN (l : List Kl) (s t : Int) : Nat := l.countP fun c => c.has s && c.has t
theorem wideF_cnt {n s t : Int} {pl : List Kl} (hp : pairP n pl s t = true) (hl : (allWays pl s t).length < 4611686018427387904) : (wideF pl s t).1 = (dirN pl s t : Nat) := by
  have e := cnt_fold (pl := pl) (s := s) (t := t) (allWays pl s t) (0, []) (Int.le_refl _) (by simp only; omega)
  unfold wideF
  rw [e, show (allWays pl s t).countP (fun w => decide (w.length = 1)) = dirN pl s t from count_one (f := 31) hp]
  simp
/-- The width, as_ numbers. -/
def wideN (pl : List Kl) (s t : Int) : Nat := dirN pl s t + packF (wideF pl s t).2 0
theorem wide_N {n s t : Int} {pl : List Kl} (hp : pairP n pl s t = true) (hl : (allWays pl s t).length < 4611686018427387904) (ko : KsOk (wideF pl s t).2) : wideP n pl s t = (wideN pl s t : Nat) := by
  have h1 := pack_le (wideF pl s t).2 0
  have h2 := ko.len
  have h3 : dirN pl s t ≤ 24 := Nat.le_trans List.countP_le_length (validP_ok (pairP_parts hp).1).2.2.1
  rw [wide_ref hp, wideF_cnt hp hl, add64 (by omega) (by omega)]
  unfold wideN
  omega
end Go.AM
end

section
namespace Go.AM
open Go.Proofs
noncomputable def f13_l1 (rec : Rec) (_k : Nat) (h1 : H) (h2 : H) (v4 : Value) (n3 : Int) (ws0 : List Value) (h5 : H) : Option (Ex × List Value × H) :=
 asI .i64 (gv ws0 0) fun n4 =>
 ifB (lt n4 n3) (
 asK (gv ws0 0) fun n5 =>
 six v4 n5 3 fun b0 b1 =>
 ld Try.prog h5 59 b0 b1 fun v5 =>
 al h5 59 [(.int .i64 0), (.int .i64 0), (.int .i64 0)] fun h6 =>
 st Try.prog h6 59 (nx h5) 0 v5 fun h7 =>
 ld Try.prog h7 3 (nx h5) (off 0 2) fun v6 =>
 asI .i64 v6 fun n6 =>
 ld Try.prog h7 3 (nx h1) (off 0 2) fun v7 =>
 asI .i64 v7 fun n7 =>
 ifB (lt n7 n6) (
 ld Try.prog h7 22 (nx h2) (off 0 1) fun v8 =>
 ld Try.prog h7 59 (nx h1) 0 fun v9 =>
 calls rec h7 61 [v8, v9] fun v10 h8 =>
 asB v10 fun q0 =>
 ifB (not q0) (
 ld Try.prog h8 22 (nx h2) (off 0 1) fun v11 =>
 ld Try.prog h8 59 (nx h1) 0 fun v12 =>
 bls Try.prog h8 22 1 [(0, v12)] fun v13 h9 =>
 app Try.prog h9 22 22 v11 v13 fun v14 h10 =>
 st Try.prog h10 22 (nx h2) (off 0 1) v14 fun h11 =>
 ld Try.prog h11 22 (nx h2) (off 0 1) fun v15 =>
 ld Try.prog h11 59 (nx h5) 0 fun v16 =>
 bls Try.prog h11 22 1 [(0, v16)] fun v17 h12 =>
 app Try.prog h12 22 22 v15 v17 fun v18 h13 =>
 st Try.prog h13 22 (nx h2) (off 0 1) v18 fun h14 =>
 asI .i64 (gv ws0 0) fun n8 =>
 out .normal [(.int .i64 (add .i64 n8 1))] h14) (
 ld Try.prog h8 22 (nx h2) (off 0 1) fun v19 =>
 ld Try.prog h8 59 (nx h5) 0 fun v20 =>
 bls Try.prog h8 22 1 [(0, v20)] fun v21 h15 =>
 app Try.prog h15 22 22 v19 v21 fun v22 h16 =>
 st Try.prog h16 22 (nx h2) (off 0 1) v22 fun h17 =>
 asI .i64 (gv ws0 0) fun n9 =>
 out .normal [(.int .i64 (add .i64 n9 1))] h17)) (
 ld Try.prog h7 22 (nx h2) (off 0 1) fun v23 =>
 ld Try.prog h7 59 (nx h5) 0 fun v24 =>
 bls Try.prog h7 22 1 [(0, v24)] fun v25 h18 =>
 app Try.prog h18 22 22 v23 v25 fun v26 h19 =>
 st Try.prog h19 22 (nx h2) (off 0 1) v26 fun h20 =>
 asI .i64 (gv ws0 0) fun n10 =>
 out .normal [(.int .i64 (add .i64 n10 1))] h20)) (
 out (.exit 0) [gv ws0 0] h5)
noncomputable def f13_l2 (_rec : Rec) (_k : Nat) (v37 : Value) (v42 : Value) (n15 : Int) (ws2 : List Value) (h33 : H) : Option (Ex × List Value × H) :=
 asI .i64 (gv ws2 1) fun n16 =>
 ifB (lt n16 n15) (
 asK (gv ws2 1) fun n17 =>
 six v37 n17 1 fun b2 b3 =>
 ld Try.prog h33 3 b2 b3 fun v47 =>
 asI .i64 v47 fun n18 =>
 ifB (le 0 n18) (
 asK (gv ws2 1) fun n19 =>
 six v42 n19 1 fun b4 b5 =>
 ld Try.prog h33 3 b4 b5 fun v48 =>
 asI .i64 v48 fun n20 =>
 ifB (lt n20 0) (
 out .ret [(.bool false), gv ws2 1] h33) (
 asK (gv ws2 1) fun n21 =>
 six v42 n21 1 fun b6 b7 =>
 ld Try.prog h33 3 b6 b7 fun v49 =>
 asI .i64 v49 fun n22 =>
 asK (gv ws2 1) fun n23 =>
 six v37 n23 1 fun b8 b9 =>
 ld Try.prog h33 3 b8 b9 fun v50 =>
 asI .i64 v50 fun n24 =>
 ifB (lt n24 n22) (
 out .ret [(.bool false), gv ws2 1] h33) (
 asI .i64 (gv ws2 1) fun n25 =>
 out .normal [gv ws2 0, (.int .i64 (add .i64 n25 1))] h33))) (
 asI .i64 (gv ws2 1) fun n26 =>
 out .normal [gv ws2 0, (.int .i64 (add .i64 n26 1))] h33)) (
 out (.exit 2) [gv ws2 0, gv ws2 1] h33)
noncomputable def f13_l3 (_rec : Rec) (_k : Nat) (v76 : Value) (v81 : Value) (n39 : Int) (ws4 : List Value) (h52 : H) : Option (Ex × List Value × H) :=
 asI .i64 (gv ws4 1) fun n40 =>
 ifB (lt n40 n39) (
 asK (gv ws4 1) fun n41 =>
 six v76 n41 1 fun b10 b11 =>
 ld Try.prog h52 3 b10 b11 fun v86 =>
 asI .i64 v86 fun n42 =>
 ifB (le 0 n42) (
 asK (gv ws4 1) fun n43 =>
 six v81 n43 1 fun b12 b13 =>
 ld Try.prog h52 3 b12 b13 fun v87 =>
 asI .i64 v87 fun n44 =>
 ifB (lt n44 0) (
 out .ret [(.bool false), gv ws4 1] h52) (
 asK (gv ws4 1) fun n45 =>
 six v81 n45 1 fun b14 b15 =>
 ld Try.prog h52 3 b14 b15 fun v88 =>
 asI .i64 v88 fun n46 =>
 asK (gv ws4 1) fun n47 =>
 six v76 n47 1 fun b16 b17 =>
 ld Try.prog h52 3 b16 b17 fun v89 =>
 asI .i64 v89 fun n48 =>
 ifB (lt n48 n46) (
 out .ret [(.bool false), gv ws4 1] h52) (
 asI .i64 (gv ws4 1) fun n49 =>
 out .normal [gv ws4 0, (.int .i64 (add .i64 n49 1))] h52))) (
 asI .i64 (gv ws4 1) fun n50 =>
 out .normal [gv ws4 0, (.int .i64 (add .i64 n50 1))] h52)) (
 out (.exit 2) [gv ws4 0, gv ws4 1] h52)
noncomputable def f13 (rec : Rec) (k : Nat) (v0 : Value) (v1 : Value) (n0 : Int) (n1 : Int) (h0 : H) : Option (Value × H) :=
 bx h0 24 v0 fun h1 =>
 bx h1 59 v1 fun h2 =>
 ld Try.prog h2 3 (nx h0) 0 fun v2 =>
 asI .i64 v2 fun n2 =>
 bld Try.prog 24 [(0, (.int .i64 n2))] fun v3 =>
 al h2 24 [(.int .i64 0), (.slice none 0 0)] fun h3 =>
 st Try.prog h3 24 (nx h2) 0 v3 fun h4 =>
 ld Try.prog h4 22 (nx h0) (off 0 1) fun v4 =>
 len v4 fun n3 =>
 lp k (f13_l1 rec k h1 h2 v4 n3) [(.int .i64 0)] h4 fun e0 _ h21 =>
 onE e0 0 (
 ld Try.prog h21 22 (nx h2) (off 0 1) fun v27 =>
 ld Try.prog h21 59 (nx h1) 0 fun v28 =>
 calls rec h21 61 [v27, v28] fun v29 h22 =>
 asB v29 fun q1 =>
 ifB (not q1) (
 ld Try.prog h22 22 (nx h2) (off 0 1) fun v30 =>
 ld Try.prog h22 59 (nx h1) 0 fun v31 =>
 bls Try.prog h22 22 1 [(0, v31)] fun v32 h23 =>
 app Try.prog h23 22 22 v30 v32 fun v33 h24 =>
 st Try.prog h24 22 (nx h2) (off 0 1) v33 fun h25 =>
 ld Try.prog h25 24 (nx h0) 0 fun v34 =>
 calls rec h25 18 [v34] fun v35 h26 =>
 calls rec h26 45 [v35, (.int .i64 n0)] fun v36 h27 =>
 ext v36 0 fun v37 =>
 ext v36 1 fun v38 =>
 asI .i64 v38 fun n11 =>
 ld Try.prog h27 24 (nx h2) 0 fun v39 =>
 calls rec h27 18 [v39] fun v40 h28 =>
 calls rec h28 45 [v40, (.int .i64 n0)] fun v41 h29 =>
 ext v41 0 fun v42 =>
 ext v41 1 fun v43 =>
 asI .i64 v43 fun n12 =>
 ifB (not (eq n11 0)) (
 ifB (eq n12 2) (
 calls rec h29 22 [] fun v44 h30 =>
 asB v44 fun q2 =>
 some ((.bool q2), h30)) (
 some ((.bool false), h29))) (
 ifB (not (eq n12 0)) (
 ifB (eq n12 2) (
 calls rec h29 22 [] fun v45 h31 =>
 asB v45 fun q3 =>
 some ((.bool q3), h31)) (
 some ((.bool false), h29))) (
 len v37 fun n13 =>
 len v42 fun n14 =>
 ifB (not (eq n13 n14)) (
 ifB (eq n12 2) (
 calls rec h29 22 [] fun v46 h32 =>
 asB v46 fun q4 =>
 some ((.bool q4), h32)) (
 some ((.bool false), h29))) (
 len v37 fun n15 =>
 lp k (f13_l2 rec k v37 v42 n15) [(.bool false), (.int .i64 0)] h29 fun e1 ws3 h34 =>
 onE e1 2 (
 ld Try.prog h34 24 (nx h0) 0 fun v51 =>
 calls rec h34 18 [v51] fun v52 h35 =>
 calls rec h35 53 [v52, (.int .i64 n0), (.int .i64 n1)] fun v53 h36 =>
 ext v53 0 fun v54 =>
 asI .i64 v54 fun n27 =>
 ext v53 1 fun v55 =>
 asI .i64 v55 fun n28 =>
 ld Try.prog h36 24 (nx h2) 0 fun v56 =>
 calls rec h36 18 [v56] fun v57 h37 =>
 calls rec h37 53 [v57, (.int .i64 n0), (.int .i64 n1)] fun v58 h38 =>
 ext v58 0 fun v59 =>
 asI .i64 v59 fun n29 =>
 ext v58 1 fun v60 =>
 asI .i64 v60 fun n30 =>
 ld Try.prog h38 24 (nx h0) 0 fun v61 =>
 calls rec h38 18 [v61] fun v62 h39 =>
 calls rec h39 48 [v62, (.int .i64 n0), (.int .i64 n1)] fun v63 h40 =>
 ext v63 0 fun v64 =>
 ext v63 1 fun v65 =>
 asI .i64 v65 fun n31 =>
 ld Try.prog h40 24 (nx h2) 0 fun v66 =>
 calls rec h40 18 [v66] fun v67 h41 =>
 calls rec h41 48 [v67, (.int .i64 n0), (.int .i64 n1)] fun v68 h42 =>
 ext v68 0 fun v69 =>
 ext v68 1 fun v70 =>
 asI .i64 v70 fun n32 =>
 ifB (not (eq n28 0)) (
 ifB (eq n28 2) (
 ifB (eq n30 2) (
 ifB (eq n31 2) (
 ifB (eq n32 2) (
 calls rec h42 22 [] fun v71 h43 =>
 asB v71 fun q5 =>
 some ((.bool q5), h43)) (
 some ((.bool false), h42))) (
 some ((.bool false), h42))) (
 some ((.bool false), h42))) (
 some ((.bool false), h42))) (
 ifB (eq n30 0) (
 ifB (eq n31 0) (
 ifB (eq n32 0) (
 ifB (le n27 n29) (
 len v69 fun n33 =>
 len v64 fun n34 =>
 ifB (le n34 n33) (
 calls rec h42 22 [] fun v72 h44 =>
 asB v72 fun q6 =>
 some ((.bool q6), h44)) (
 some ((.bool false), h42))) (
 some ((.bool false), h42))) (
 some ((.bool false), h42))) (
 some ((.bool false), h42))) (
 some ((.bool false), h42)))) (
 onR e1 (
 some (gv ws3 0, h34))))))) (
 ld Try.prog h22 24 (nx h0) 0 fun v73 =>
 calls rec h22 18 [v73] fun v74 h45 =>
 calls rec h45 45 [v74, (.int .i64 n0)] fun v75 h46 =>
 ext v75 0 fun v76 =>
 ext v75 1 fun v77 =>
 asI .i64 v77 fun n35 =>
 ld Try.prog h46 24 (nx h2) 0 fun v78 =>
 calls rec h46 18 [v78] fun v79 h47 =>
 calls rec h47 45 [v79, (.int .i64 n0)] fun v80 h48 =>
 ext v80 0 fun v81 =>
 ext v80 1 fun v82 =>
 asI .i64 v82 fun n36 =>
 ifB (not (eq n35 0)) (
 ifB (eq n36 2) (
 calls rec h48 22 [] fun v83 h49 =>
 asB v83 fun q7 =>
 some ((.bool q7), h49)) (
 some ((.bool false), h48))) (
 ifB (not (eq n36 0)) (
 ifB (eq n36 2) (
 calls rec h48 22 [] fun v84 h50 =>
 asB v84 fun q8 =>
 some ((.bool q8), h50)) (
 some ((.bool false), h48))) (
 len v76 fun n37 =>
 len v81 fun n38 =>
 ifB (not (eq n37 n38)) (
 ifB (eq n36 2) (
 calls rec h48 22 [] fun v85 h51 =>
 asB v85 fun q9 =>
 some ((.bool q9), h51)) (
 some ((.bool false), h48))) (
 len v76 fun n39 =>
 lp k (f13_l3 rec k v76 v81 n39) [(.bool false), (.int .i64 0)] h48 fun e2 ws5 h53 =>
 onE e2 2 (
 ld Try.prog h53 24 (nx h0) 0 fun v90 =>
 calls rec h53 18 [v90] fun v91 h54 =>
 calls rec h54 53 [v91, (.int .i64 n0), (.int .i64 n1)] fun v92 h55 =>
 ext v92 0 fun v93 =>
 asI .i64 v93 fun n51 =>
 ext v92 1 fun v94 =>
 asI .i64 v94 fun n52 =>
 ld Try.prog h55 24 (nx h2) 0 fun v95 =>
 calls rec h55 18 [v95] fun v96 h56 =>
 calls rec h56 53 [v96, (.int .i64 n0), (.int .i64 n1)] fun v97 h57 =>
 ext v97 0 fun v98 =>
 asI .i64 v98 fun n53 =>
 ext v97 1 fun v99 =>
 asI .i64 v99 fun n54 =>
 ld Try.prog h57 24 (nx h0) 0 fun v100 =>
 calls rec h57 18 [v100] fun v101 h58 =>
 calls rec h58 48 [v101, (.int .i64 n0), (.int .i64 n1)] fun v102 h59 =>
 ext v102 0 fun v103 =>
 ext v102 1 fun v104 =>
 asI .i64 v104 fun n55 =>
 ld Try.prog h59 24 (nx h2) 0 fun v105 =>
 calls rec h59 18 [v105] fun v106 h60 =>
 calls rec h60 48 [v106, (.int .i64 n0), (.int .i64 n1)] fun v107 h61 =>
 ext v107 0 fun v108 =>
 ext v107 1 fun v109 =>
 asI .i64 v109 fun n56 =>
 ifB (not (eq n52 0)) (
 ifB (eq n52 2) (
 ifB (eq n54 2) (
 ifB (eq n55 2) (
 ifB (eq n56 2) (
 calls rec h61 22 [] fun v110 h62 =>
 asB v110 fun q10 =>
 some ((.bool q10), h62)) (
 some ((.bool false), h61))) (
 some ((.bool false), h61))) (
 some ((.bool false), h61))) (
 some ((.bool false), h61))) (
 ifB (eq n54 0) (
 ifB (eq n55 0) (
 ifB (eq n56 0) (
 ifB (le n51 n53) (
 len v108 fun n57 =>
 len v103 fun n58 =>
 ifB (le n58 n57) (
 calls rec h61 22 [] fun v111 h63 =>
 asB v111 fun q11 =>
 some ((.bool q11), h63)) (
 some ((.bool false), h61))) (
 some ((.bool false), h61))) (
 some ((.bool false), h61))) (
 some ((.bool false), h61))) (
 some ((.bool false), h61)))) (
 onR e2 (
 some (gv ws5 0, h53)))))))) (
 none)
theorem e13 (rec : Rec) (k : Nat) (v0 : Value) (v1 : Value) (n0 : Int) (n1 : Int) (h : H) : bodyT Try.prog E0 SC (XC Try.prog rec k) 13 (Value × H) [.opq v0, .opq v1, .int .i64 n0, .int .i64 n1] h (fun v h => some (v, h)) = f13 rec k v0 v1 n0 n1 h := by kernel_rfl
end Go.AM
end

section
namespace Go.AM
open Go.Proofs
/-- One call more is put in its place. -/
def insS (c : Kl) (acc : List Kl) (x : Kl) : List Kl := if c.t < x.t ∧ c ∉ acc then acc ++ [c] ++ [x] else acc ++ [x]
def insP (l : List Kl) (c : Kl) : List Kl := if c ∈ l.foldl (insS c) [] then l.foldl (insS c) [] else l.foldl (insS c) [] ++ [c]
/-- The calls are there still, with at most one more. -/
def InsR (l L : List Kl) : Prop := L = l ∨ ∃ A c B, l = A ++ B ∧ L = A ++ c :: B
theorem insS_keep {c : Kl} : ∀ (l acc : List Kl), c ∈ acc → l.foldl (insS c) acc = acc ++ l := by
  intro l
  induction l with
  | nil => intro acc _; simp
  | cons x l ih =>
    intro acc h
    have e : insS c acc x = acc ++ [x] := by unfold insS; rw [if_neg (fun hh => hh.2 h)]
    rw [List.foldl_cons, e, ih _ (List.mem_append_left _ h)]
    simp
theorem insS_go {c : Kl} : ∀ (l acc : List Kl), (l.foldl (insS c) acc = acc ++ l) ∨ (∃ A B, l = A ++ B ∧ l.foldl (insS c) acc = acc ++ A ++ c :: B) := by
  intro l
  induction l with
  | nil => intro acc; left; simp
  | cons x l ih =>
    intro acc
    rw [List.foldl_cons]
    by_cases h : c.t < x.t ∧ c ∉ acc
    · have e : insS c acc x = acc ++ [c] ++ [x] := by unfold insS; rw [if_pos h]
      rw [e, insS_keep _ _ (by simp)]
      right
      exact ⟨[], x :: l, rfl, by simp⟩
    · have e : insS c acc x = acc ++ [x] := by unfold insS; rw [if_neg h]
      rw [e]
      rcases ih (acc ++ [x]) with h1 | ⟨A, B, h1, h2⟩
      · left; rw [h1]; simp
      · right; exact ⟨x :: A, B, by rw [h1]; rfl, by rw [h2]; simp⟩
theorem ins_r (l : List Kl) (c : Kl) : InsR l (insP l c) := by
  unfold insP
  rcases insS_go (c := c) l [] with h | ⟨A, B, h1, h2⟩
  · rw [h, List.nil_append]
    split
    · exact .inl rfl
    · exact .inr ⟨l, c, [], by simp, rfl⟩
  · rw [h2, List.nil_append, if_pos (by simp)]
    exact .inr ⟨A, c, B, h1, rfl⟩
theorem InsR.sub {l L : List Kl} (r : InsR l L) : l.Sublist L := by
  rcases r with rfl | ⟨A, c, B, rfl, rfl⟩
  · exact List.Sublist.refl _
  · exact List.Sublist.append_left (List.sublist_cons_self _ _) _
theorem InsR.valid {n : Int} {l L : List Kl} (r : InsR l L) (h : validP n L = true) : validP n l = true := by
  have v := vp_iff.1 h
  have hs := r.sub
  exact vp_iff.2 ⟨v.n1, v.n7, Nat.le_trans hs.length_le v.len, fun c hc => v.ok c (hs.subset hc), v.two.sublist hs⟩
/-- Where the calls are now. -/
structure Plc (l L : List Kl) (f : Int → Int) : Prop where
  at_ : ∀ i : Int, 0 ≤ i → i < l.length → 0 ≤ f i ∧ L[(f i).toNat]? = l[i.toNat]?
  inj : ∀ i j : Int, f i = f j → i = j
theorem InsR.plc {l L : List Kl} (r : InsR l L) : ∃ f, Plc l L f := by
  rcases r with rfl | ⟨A, c, B, rfl, rfl⟩
  · exact ⟨id, fun i h0 _ => ⟨h0, rfl⟩, fun i j h => h⟩
  · refine ⟨fun i : Int => if i < A.length then i else i + 1, fun i h0 hi => ?_, fun i j h => ?_⟩
    · split
      · rename_i h
        refine ⟨h0, ?_⟩
        rw [List.getElem?_append_left (by omega), List.getElem?_append_left (by omega)]
      · rename_i h
        refine ⟨by omega, ?_⟩
        rw [List.getElem?_append_right (by omega), List.getElem?_append_right (by omega), show (i + 1).toNat - A.length = (i.toNat - A.length) + 1 by omega, List.getElem?_cons_succ]
    · split at h <;> split at h <;> omega
theorem Plc.run {l L : List Kl} {f : Int → Int} (p : Plc l L f) : ∀ (w : List Int) (st st' : Int × Int × Int), runP l w st = some st' → runP L (w.map f) st = some st' := by
  intro w
  induction w with
  | nil => intro st st' h; exact h
  | cons i w ih =>
    intro st st' h
    simp only [runP] at h
    split at h
    · rename_i hi
      split at h
      · cases h
      · rename_i c hc
        split at h
        · rename_i hg
          obtain ⟨q1, q2⟩ := p.at_ i hi.1 hi.2
          rw [hc] at q2
          have := (List.getElem?_eq_some_iff.1 q2).1
          simp only [List.map_cons, runP]
          rw [if_pos ⟨q1, by omega⟩, q2]
          simp only
          rw [if_pos hg]
          exact ih _ _ h
        · cases h
    · cases h
theorem Plc.way {n s t : Int} {l L : List Kl} {f : Int → Int} (p : Plc l L f) (hv : validP n l = true) (hV : validP n L = true) (hs : 0 ≤ s ∧ s < n) (hst : s ≠ t) {w : List Int} (hw : w ∈ allWays l s t) : w.map f ∈ allWays L s t := by
  obtain ⟨st', h1, h2⟩ := (check_run hv hs w).1 ((mem_all hv hst w).1 hw)
  exact (mem_all hV hst _).2 ((check_run hV hs _).2 ⟨st', p.run w _ _ h1, h2⟩)
theorem Plc.bet {s t : Int} {l L : List Kl} {f : Int → Int} (p : Plc l L f) {w : List Int} (hw : ∀ x ∈ w, 0 ≤ x ∧ x < l.length) : betM L s t (w.map f) = betM l s t w := by
  have : orW L (w.map f) = orW l w := by
    unfold orW
    rw [List.foldl_map]
    have : ∀ (w : List Int) (a : Nat), (∀ x ∈ w, 0 ≤ x ∧ x < l.length) → w.foldl (fun a x => a ||| endsK L (f x)) a = w.foldl (fun a x => a ||| endsK l x) a := by
      intro w
      induction w with
      | nil => intro a _; rfl
      | cons x w ih =>
        intro a h
        have hx := h x List.mem_cons_self
        have e : endsK L (f x) = endsK l x := by
          unfold endsK
          rw [(p.at_ x hx.1 hx.2).2]
        rw [List.foldl_cons, List.foldl_cons, e]
        exact ih _ fun y hy => h y (List.mem_cons_of_mem _ hy)
    exact this w 0 hw
  unfold betM
  rw [this]
theorem more_wide {n s t : Int} {l L : List Kl} (r : InsR l L) (hp : pairP n l s t = true) (hP : pairP n L s t = true) : wideN l s t ≤ wideN L s t := by
  obtain ⟨f, p⟩ := r.plc
  obtain ⟨hv, hs, ht, hst⟩ := pairP_parts hp
  have hV := (pairP_parts hP).1
  have h1 : dirN l s t ≤ dirN L s t := List.Sublist.countP_le r.sub
  have h2 : packF (wideF l s t).2 0 ≤ packF (wideF L s t).2 0 := by
    have a := pack_hold (F := fullN n - 1) (wideF l s t).2 (fun x hx => by
      obtain ⟨w, hw, h1, rfl⟩ := wideF_mem x hx
      exact sub_full (betM_ltn hv w)) 0
    have b := hold_mono (ks' := (wideF L s t).2) (fun x hx => by
      obtain ⟨w, hw, h1, rfl⟩ := wideF_mem x hx
      rw [← p.bet (s := s) (t := t) (allWays_ok w hw).2.2]
      exact wide_has (p.way hv hV hs hst hw) (by rw [List.length_map]; exact h1)) _ _ a
    exact pack_ge (wideF L s t).2 (fun x hx => by
      obtain ⟨w', hw', h1', rfl⟩ := wideF_mem x hx
      exact way_pos hP w' hw' h1') _ _ 0 (Nat.and_zero _) b
  unfold wideN
  omega
theorem more_mc {n s t : Int} {l L : List Kl} (r : InsR l L) (hp : pairP n l s t = true) (hP : pairP n L s t = true) {W : List (List Int)} (a : AprR l s t W) : W.length ≤ mcP L s t 0 := by
  obtain ⟨f, p⟩ := r.plc
  obtain ⟨hv, hs, ht, hst⟩ := pairP_parts hp
  have hV := (pairP_parts hP).1
  have hmc := mcP_le (l := l) hst 0
  have := ways_mc (W := W.map fun w => w.map f) (vp_iff.1 hV) hs hst (fun w hw => by
    obtain ⟨w0, hw0, rfl⟩ := List.mem_map.1 hw
    exact p.way hv hV hs hst (a.ways w0 hw0)) (by
    rw [List.pairwise_map]
    refine a.dis.imp fun {w u} h i hi hiu => ?_
    obtain ⟨x, hx, rfl⟩ := List.mem_map.1 hi
    obtain ⟨y, hy, e⟩ := List.mem_map.1 hiu
    rw [p.inj y x e] at hy
    exact h x hx hy) (by rw [List.length_map, a.len]; have := (validP_ok hv).2.2.1; omega)
  rwa [List.length_map] at this
theorem more_arr {n s : Int} {l L : List Kl} (r : InsR l L) (hv : validP n l = true) (hV : validP n L = true) (hs : 0 ≤ s ∧ s < n) {q : Int} (hq : 0 ≤ q ∧ q < n) (h : atP (arriveP n.toNat l s) q ≠ -1) :
    atP (arriveP n.toNat L s) q ≠ -1 ∧ atP (arriveP n.toNat L s) q ≤ atP (arriveP n.toNat l s) q := by
  obtain ⟨f, p⟩ := r.plc
  rw [arrive_K] at h ⊢
  obtain ⟨w, m, hr, hi, _⟩ := (arr_ok hv hs l.length (Nat.le_refl _)).run q hq h
  have hr' := p.run w _ _ hr
  rw [arrive_K]
  exact run_arr hV hs (w.map f).length (w.map f) rfl _ L.length (Nat.le_refl _) hr' fun i hi' => by
    obtain ⟨x, hx, rfl⟩ := List.mem_map.1 hi'
    obtain ⟨x0, xl⟩ := hi x hx
    obtain ⟨c1, c2⟩ := p.at_ x x0 xl
    refine ⟨c1, ?_⟩
    obtain ⟨c, hc⟩ : ∃ c, l[x.toNat]? = some c := ⟨_, List.getElem?_eq_getElem (by omega)⟩
    rw [hc] at c2
    have := (List.getElem?_eq_some_iff.1 c2).1
    omega
end Go.AM
end

section
namespace Go.AM
open Go.Proofs
/-- What is asked of both logs. -/
noncomputable def f13_t (rec : Rec) (k : Nat) (h0 : H) (h2 : H) (n0 : Int) (n1 : Int) (h25 : H) : Option (Value × H) :=
      ld Try.prog h25 24 (nx h0) 0 fun v34 =>
      calls rec h25 18 [v34] fun v35 h26 =>
      calls rec h26 45 [v35, (.int .i64 n0)] fun v36 h27 =>
      ext v36 0 fun v37 =>
      ext v36 1 fun v38 =>
      asI .i64 v38 fun n11 =>
      ld Try.prog h27 24 (nx h2) 0 fun v39 =>
      calls rec h27 18 [v39] fun v40 h28 =>
      calls rec h28 45 [v40, (.int .i64 n0)] fun v41 h29 =>
      ext v41 0 fun v42 =>
      ext v41 1 fun v43 =>
      asI .i64 v43 fun n12 =>
      ifB (not (eq n11 0)) (
        ifB (eq n12 2) (
          calls rec h29 22 [] fun v44 h30 =>
          asB v44 fun q2 =>
          some ((.bool q2), h30)) (
          some ((.bool false), h29))) (
        ifB (not (eq n12 0)) (
          ifB (eq n12 2) (
            calls rec h29 22 [] fun v45 h31 =>
            asB v45 fun q3 =>
            some ((.bool q3), h31)) (
            some ((.bool false), h29))) (
          len v37 fun n13 =>
          len v42 fun n14 =>
          ifB (not (eq n13 n14)) (
            ifB (eq n12 2) (
              calls rec h29 22 [] fun v46 h32 =>
              asB v46 fun q4 =>
              some ((.bool q4), h32)) (
              some ((.bool false), h29))) (
            len v37 fun n15 =>
            lp k (f13_l2 rec k v37 v42 n15) [(.bool false), (.int .i64 0)] h29 fun e1 ws3 h34 =>
            onE e1 2 (
              ld Try.prog h34 24 (nx h0) 0 fun v51 =>
              calls rec h34 18 [v51] fun v52 h35 =>
              calls rec h35 53 [v52, (.int .i64 n0), (.int .i64 n1)] fun v53 h36 =>
              ext v53 0 fun v54 =>
              asI .i64 v54 fun n27 =>
              ext v53 1 fun v55 =>
              asI .i64 v55 fun n28 =>
              ld Try.prog h36 24 (nx h2) 0 fun v56 =>
              calls rec h36 18 [v56] fun v57 h37 =>
              calls rec h37 53 [v57, (.int .i64 n0), (.int .i64 n1)] fun v58 h38 =>
              ext v58 0 fun v59 =>
              asI .i64 v59 fun n29 =>
              ext v58 1 fun v60 =>
              asI .i64 v60 fun n30 =>
              ld Try.prog h38 24 (nx h0) 0 fun v61 =>
              calls rec h38 18 [v61] fun v62 h39 =>
              calls rec h39 48 [v62, (.int .i64 n0), (.int .i64 n1)] fun v63 h40 =>
              ext v63 0 fun v64 =>
              ext v63 1 fun v65 =>
              asI .i64 v65 fun n31 =>
              ld Try.prog h40 24 (nx h2) 0 fun v66 =>
              calls rec h40 18 [v66] fun v67 h41 =>
              calls rec h41 48 [v67, (.int .i64 n0), (.int .i64 n1)] fun v68 h42 =>
              ext v68 0 fun v69 =>
              ext v68 1 fun v70 =>
              asI .i64 v70 fun n32 =>
              ifB (not (eq n28 0)) (
                ifB (eq n28 2) (
                  ifB (eq n30 2) (
                    ifB (eq n31 2) (
                      ifB (eq n32 2) (
                        calls rec h42 22 [] fun v71 h43 =>
                        asB v71 fun q5 =>
                        some ((.bool q5), h43)) (
                        some ((.bool false), h42))) (
                      some ((.bool false), h42))) (
                    some ((.bool false), h42))) (
                  some ((.bool false), h42))) (
                ifB (eq n30 0) (
                  ifB (eq n31 0) (
                    ifB (eq n32 0) (
                      ifB (le n27 n29) (
                        len v69 fun n33 =>
                        len v64 fun n34 =>
                        ifB (le n34 n33) (
                          calls rec h42 22 [] fun v72 h44 =>
                          asB v72 fun q6 =>
                          some ((.bool q6), h44)) (
                          some ((.bool false), h42))) (
                        some ((.bool false), h42))) (
                      some ((.bool false), h42))) (
                    some ((.bool false), h42))) (
                  some ((.bool false), h42)))) (
              onR e1 (
                some (gv ws3 0, h34))))))
theorem f13_is (rec : Rec) (k : Nat) (v0 v1 : Value) (n0 n1 : Int) (h0 : H) : f13 rec k v0 v1 n0 n1 h0 =
  (bx h0 24 v0 fun h1 =>
  bx h1 59 v1 fun h2 =>
  ld Try.prog h2 3 (nx h0) 0 fun v2 =>
  asI .i64 v2 fun n2 =>
  bld Try.prog 24 [(0, (.int .i64 n2))] fun v3 =>
  al h2 24 [(.int .i64 0), (.slice none 0 0)] fun h3 =>
  st Try.prog h3 24 (nx h2) 0 v3 fun h4 =>
  ld Try.prog h4 22 (nx h0) (off 0 1) fun v4 =>
  len v4 fun n3 =>
  lp k (f13_l1 rec k h1 h2 v4 n3) [(.int .i64 0)] h4 fun e0 ws1 h21 =>
  onE e0 0 (
    ld Try.prog h21 22 (nx h2) (off 0 1) fun v27 =>
    ld Try.prog h21 59 (nx h1) 0 fun v28 =>
    calls rec h21 61 [v27, v28] fun v29 h22 =>
    asB v29 fun q1 =>
    ifB (not q1) (
      ld Try.prog h22 22 (nx h2) (off 0 1) fun v30 =>
      ld Try.prog h22 59 (nx h1) 0 fun v31 =>
      bls Try.prog h22 22 1 [(0, v31)] fun v32 h23 =>
      app Try.prog h23 22 22 v30 v32 fun v33 h24 =>
      st Try.prog h24 22 (nx h2) (off 0 1) v33 fun h25 =>
      f13_t rec k h0 h2 n0 n1 h25) (
      f13_t rec k h0 h2 n0 n1 h22)) (
    none)) := rfl
end Go.AM
end

section
namespace Go.AM
open Go.Proofs
noncomputable def f61 (rec : Rec) (_k : Nat) (v0 : Value) (v1 : Value) (h0 : H) : Option (Value × H) :=
 bx h0 59 v1 fun h1 =>
 ld Try.prog h1 59 (nx h0) 0 fun v2 =>
 calls rec h1 96 [v0, v2] fun v3 h2 =>
 asI .i64 v3 fun n0 =>
 some ((.bool (le 0 n0)), h2)
theorem e61 (rec : Rec) (k : Nat) (v0 : Value) (v1 : Value) (h : H) : bodyT Try.prog E0 SC (XC Try.prog rec k) 61 (Value × H) [.opq v0, .opq v1] h (fun v h => some (v, h)) = f61 rec k v0 v1 h := by kernel_rfl
theorem t61 {k : Nat} {v0 : Value} {v1 : Value} {h h1 : H} {v : Value} (hh : f61 rn k v0 v1 h = some (v, h1)) : rn 61 #[v0, v1] h = some (v, trunc Try.prog h h1 v) :=
  run_of_bodyT (args := [.opq v0, .opq v1]) rfl ((e61 _ _ _ _ _).trans hh)
theorem p61 {k : Nat} {v0 : Value} {v1 : Value} {h h1 : H} {v : Value} (hh : f61 rn k v0 v1 h = some (v, h1)) (hp : plainO v = true) (x : Ext h h1) : rn 61 #[v0, v1] h = some (v, h) := by rw [t61 hh, trunc_pure hp x]
noncomputable def f96_l1 (_rec : Rec) (_k : Nat) (v0 : Value) (h0 : H) (n0 : Int) (ws0 : List Value) (h2 : H) : Option (Ex × List Value × H) :=
 asI .i64 (gv ws0 1) fun n1 =>
 ifB (lt n1 n0) (
 ld Try.prog h2 59 (nx h0) 0 fun v2 =>
 asK (gv ws0 1) fun n2 =>
 six v0 n2 3 fun b0 b1 =>
 ld Try.prog h2 59 b0 b1 fun v3 =>
 eqv Try.prog 59 v2 v3 fun q0 =>
 ifB q0 (
 out .ret [gv ws0 1, gv ws0 1] h2) (
 asI .i64 (gv ws0 1) fun n3 =>
 out .normal [gv ws0 0, (.int .i64 (add .i64 n3 1))] h2)) (
 out (.exit 0) [gv ws0 0, gv ws0 1] h2)
noncomputable def f96 (rec : Rec) (k : Nat) (v0 : Value) (v1 : Value) (h0 : H) : Option (Value × H) :=
 bx h0 59 v1 fun h1 =>
 len v0 fun n0 =>
 lp k (f96_l1 rec k v0 h0 n0) [(.int .i64 0), (.int .i64 0)] h1 fun e0 ws1 h3 =>
 onE e0 0 (
 some ((.int .i64 (-1)), h3)) (
 onR e0 (
 some (gv ws1 0, h3)))
theorem e96 (rec : Rec) (k : Nat) (v0 : Value) (v1 : Value) (h : H) : bodyT Try.prog E0 SC (XC Try.prog rec k) 96 (Value × H) [.opq v0, .opq v1] h (fun v h => some (v, h)) = f96 rec k v0 v1 h := by kernel_rfl
theorem t96 {k : Nat} {v0 : Value} {v1 : Value} {h h1 : H} {v : Value} (hh : f96 rn k v0 v1 h = some (v, h1)) : rn 96 #[v0, v1] h = some (v, trunc Try.prog h h1 v) :=
  run_of_bodyT (args := [.opq v0, .opq v1]) rfl ((e96 _ _ _ _ _).trans hh)
theorem p96 {k : Nat} {v0 : Value} {v1 : Value} {h h1 : H} {v : Value} (hh : f96 rn k v0 v1 h = some (v, h1)) (hp : plainO v = true) (x : Ext h h1) : rn 96 #[v0, v1] h = some (v, h) := by rw [t96 hh, trunc_pure hp x]
end Go.AM
end

section
namespace Go.AM
open Go.Proofs
theorem eqv59 (c d : Kl) {R : Type} (K : Bool → Option R) : eqv Try.prog 59 c.val d.val K = K (decide (c = d)) := by
  have e : binOp Try.prog .eql 59 c.val d.val = (eqV Try.prog 10 59 c.val d.val).map Value.bool := by kernel_rfl
  have e2 : eqV Try.prog 10 59 c.val d.val = (some (c.a == d.a)).bind fun q => if q then (some (c.b == d.b)).bind fun q => if q then (some (c.t == d.t)).bind fun q => if q then some true else some false else some false else some false := by kernel_rfl
  have e3 : eqV Try.prog 10 59 c.val d.val = some (decide (c = d)) := by
    rw [e2]
    obtain ⟨p, t, g⟩ := c
    obtain ⟨p', t', g'⟩ := d
    simp only [Option.bind_some, Kl.mk.injEq]
    by_cases h1 : p = p' <;> by_cases h2 : t = t' <;> by_cases h3 : g = g' <;> simp [h1, h2, h3]
  unfold eqv
  rw [e, e3]
  rfl
theorem s96 {v : Value} {c : Kl} {l : List Kl} {h : H} (hs0 : SlR h 59 3 v (l.map Kl.cells)) : ∃ r, rn 96 #[v, c.val] h = some (iv r, h) ∧ le 0 r = decide (c ∈ l) := by
  have hlen := hs0.lt62
  rw [List.length_map] at hlen
  have hn0 : ∀ {T : Type} (K : Int → Option T), len v K = K (l.length : Int) := fun K => by rw [hs0.len]; simp
  have x1 := Ext.new h (.row c.cells 59 true)
  have b1 : (h.new (.row c.cells 59 true)).blk h.nx = some (.row c.cells 59 true) := blk_new_self _ _
  have hs := hs0.ext x1
  generalize hh1 : h.new (.row c.cells 59 true) = h1 at *
  have hl := lp_same (F := f96_l1 rn (l.length + 1) v h l.length) (k := l.length + 1) (l := l) (h := h1) (fun i (_ : Unit) => [iv 0, iv i])
    (fun i y s => if (!decide (c = y)) = true then .inl s else .inr i) (fun _ _ => True) (fun _ => .ret) (fun i => [iv i, iv i]) 0 (fun _ => [iv 0, iv l.length]) (ws := [iv 0, iv 0]) (s0 := ()) rfl trivial (by omega) (by simp)
    (fun _ _ => by
      unfold f96_l1
      rw [show gv [iv 0, iv (l.length : Int)] 1 = iv (l.length : Int) from rfl, asI_int, lt_f (by omega), ifB_false]
      rfl)
    (by
      intro i d _ hd _
      have hi := (List.getElem?_eq_some_iff.1 hd).1
      refine ⟨fun _ _ => trivial, ?_⟩
      unfold f96_l1
      rw [show gv [iv 0, iv i] 1 = iv i from rfl, asI_int, lt_t (by omega), ifB_true, nx_eq, d59, rd_all (n := 3) b1 rfl, Option.bind_some, asK_int, hs.ldA ag59 sz59 (by omega) (x := d.cells) (by simp [hd])]
      refine (eqv59 c d _).trans ?_
      by_cases hpc : c = d
      · rw [decide_eq_true hpc, ifB_true]; simp [out, rnd, gv]
      · rw [decide_eq_false hpc, ifB_false, asI_int, add64 (by omega) (by omega)]; simp [out, rnd, gv])
  have x1' : Ext h h1 := by rw [← hh1]; exact .new _ _
  have bxe : ∀ (K : H → Option (Value × H)), bx h 59 c.val K = K h1 := fun K => by rw [bx_eq, ← hh1]; rfl
  rcases itL_all (ok := fun _ y => !decide (c = y)) (g := fun i _ => i) (s0 := ()) l 0 with ⟨⟨r, g1⟩, j, y, hy, g2⟩ | ⟨g1, g2⟩
  · rw [g1] at hl
    refine ⟨r, p96 (k := l.length + 1) (h1 := h1) ?_ rfl x1', ?_⟩
    · unfold f96
      rw [bxe, hn0, lp_eq hl]
      rfl
    · rw [le_t (by omega)]
      symm
      have : c = y := by simpa using g2
      rw [decide_eq_true_eq, this]
      exact List.mem_of_getElem? hy
  · rw [g1] at hl
    refine ⟨-1, p96 (k := l.length + 1) (h1 := h1) ?_ rfl x1', ?_⟩
    · unfold f96
      rw [bxe, hn0, lp_eq hl.1]
      rfl
    · symm
      show _ = false
      rw [decide_eq_false_iff_not]
      intro hx
      obtain ⟨j, hj, rfl⟩ := List.getElem_of_mem hx
      have := g2 j _ (List.getElem?_eq_getElem hj)
      simp at this
theorem s61 {v : Value} {c : Kl} {l : List Kl} {h : H} (hs : SlR h 59 3 v (l.map Kl.cells)) : rn 61 #[v, c.val] h = some (.bool (decide (c ∈ l)), h) := by
  have x1 := Ext.new h (.row c.cells 59 true)
  have b1 : (h.new (.row c.cells 59 true)).blk h.nx = some (.row c.cells 59 true) := blk_new_self _ _
  obtain ⟨r, e, hr⟩ := s96 (c := c) (hs.ext x1)
  refine p61 (k := 0) (h1 := h.new (.row c.cells 59 true)) ?_ rfl x1
  unfold f61
  rw [bx_eq, nx_eq, show c.val.cells.toList = c.cells from rfl, d59, rd_all (n := 3) b1 rfl, Option.bind_some]
  refine (calls_eq (xs := [_, _]) e).trans ?_
  rw [asI_int, hr]
theorem k61 {v : Value} {c : Kl} {l : List Kl} {h : H} (hs : SlR h 59 3 v (l.map Kl.cells)) {R : Type} (K : Value → H → Option R) : calls rcW h 61 [v, .agg c.cells.toArray] K = K (.bool (decide (c ∈ l))) h :=
  (rcW_ne (by decide) (by decide)).trans (calls_eq (xs := [_, _]) (s61 hs))
theorem info59 : ∃ i, Try.prog.info? 59 = some i ∧ i.bytes ≤ 24 := by
  have h : (Try.prog.info? 59).map (fun i => i.bytes) = some 24 := by kernel_rfl
  cases hi : Try.prog.info? 59 with
  | none => rw [hi] at h; cases h
  | some i => rw [hi] at h; simp only [Option.map_some, Option.some.injEq] at h; exact ⟨i, rfl, by omega⟩
/-- A call is appended to the log that grows. -/
theorem push13 {lo b : Nat} {n : Int} {g : H} {sv : Value} {acc : List Kl} (c : Kl) (hap : AqR lo g 59 3 sv (acc.map Kl.cells)) (hb : g.blk b = some (.row [iv n, sv] 24 true)) (hlo : lo ≤ g.nx) (hbl : b < lo) (hm : acc.length + 1 < 2 ^ 43) :
    ∃ g' sv', (∀ {R : Type} (K : H → Option R), (bls Try.prog g 22 1 [(0, .agg c.cells.toArray)] fun v13 h9 => app Try.prog h9 22 22 sv v13 fun v14 h10 => st Try.prog h10 22 b (off 0 1) v14 K) = K g') ∧ g.nx ≤ g'.nx ∧ (∀ q, q < g.nx → q ≠ b → AM.blkOf sv ≠ some q → g'.blk q = g.blk q) ∧
      g'.blk b = some (.row [iv n, sv'] 24 true) ∧ AqR lo g' 59 3 sv' ((acc ++ [c]).map Kl.cells) := by
  obtain ⟨v', h9, e9, a9, n9, k9, b9, hb9, hb9'⟩ := hap.pushG app22 app22 (bls22 c) rfl rfl ⟨by simpa using hm, info59⟩ hlo
  have nosv : AM.blkOf sv ≠ some b := fun e => by have := (hap.blkOf e).1; omega
  have g2' := (k9 b (by omega) nosv).trans hb
  have hst : wrc 1 h9 b 1 v' = some (h9.set b (.row [iv n, v'] 24 true)) := by rw [wrc_one g2' a9.cells.1 a9.cells.2 (by simp)]; rfl
  refine ⟨h9.set b (.row [iv n, v'] 24 true), v', fun K => ?_, by rw [nx_set]; exact n9, fun q hq hne hsq => by rw [blk_set_ne _ _ _ hne]; exact k9 q hq hsq, blk_set_self _ _ _, ?_⟩
  · refine (e9 _).trans ?_
    rw [w22, show off 0 1 = 1 from rfl, hst]
    rfl
  · rw [List.map_append]
    exact a9.keep (Nat.le_refl _) fun q hq => blk_set_ne _ _ _ (by have := (a9.blkOf hq).1; omega)
theorem l131 {h1 h2 h4 : H} {n : Int} {sl : Value} {l : List Kl} {c : Kl} {kk k : Nat} (hm : l.length + 2 < 2 ^ 43) (hk : l.length < k) (hs : SlR h4 59 3 sl (l.map Kl.cells)) (hsb : ∀ b, blkOf sl = some b → b ≠ h2.nx) (hc : h4.blk h1.nx = some (.row c.cells 59 true)) (hb : h4.blk h2.nx = some (.row [iv n, .slice none 0 0] 24 true))
    (h12 : h1.nx ≠ h2.nx) (hl1 : h1.nx < h4.nx) (hl2 : h2.nx < h4.nx) :
    ∃ ws g sv, lpGo (f13_l1 rcW kk h1 h2 sl l.length) k [iv 0] h4 = some (.exit 0, ws, g) ∧ h4.nx ≤ g.nx ∧ (∀ q, q < h4.nx → q ≠ h2.nx → g.blk q = h4.blk q) ∧ g.blk h2.nx = some (.row [iv n, sv] 24 true) ∧
      AqR h4.nx g 59 3 sv ((l.foldl (insS c) []).map Kl.cells) ∧ (l.foldl (insS c) []).length ≤ l.length + 1 ∧ (c ∉ l.foldl (insS c) [] → (l.foldl (insS c) []).length ≤ l.length) := by
  have hl62 := hs.lt62
  rw [List.length_map] at hl62
  obtain ⟨ws', g', q1, q2, q3, sv, q4, q5, q6, rfl⟩ := lp_for (k := k) (l := l) (F := f13_l1 rcW kk h1 h2 sl l.length) (fun _ x acc => insS c acc x)
    (fun i acc ws g => h4.nx ≤ g.nx ∧ (∀ q, q < h4.nx → q ≠ h2.nx → g.blk q = h4.blk q) ∧ ∃ sv, g.blk h2.nx = some (.row [iv n, sv] 24 true) ∧ AqR h4.nx g 59 3 sv (acc.map Kl.cells) ∧ (acc.length ≤ i + 1 ∧ (c ∉ acc → acc.length ≤ i)) ∧ ws = [iv i]) 0 (ws := [iv 0]) (h := h4) (s0 := [])
    ⟨Nat.le_refl _, fun _ _ _ => rfl, _, hb, .nil, ⟨Nat.zero_le _, fun _ => Nat.le_refl _⟩, rfl⟩ hk
    (by
      rintro acc ws g ⟨_, _, sv, _, _, _, rfl⟩
      unfold f13_l1
      simp only [gv, List.getD_cons_zero, asI_int]
      rw [lt_f (by omega), ifB_false]; rfl)
    (by
      rintro i d acc ws g hd ⟨hn, hf, sv, hg2, hap, hal, rfl⟩
      have hi := (List.getElem?_eq_some_iff.1 hd).1
      have hal1 := hal.1
      have keep1 : (acc ++ [d]).length ≤ i + 1 + 1 ∧ (c ∉ acc ++ [d] → (acc ++ [d]).length ≤ i + 1) := by
        refine ⟨by simp; omega, fun hh => ?_⟩
        have := hal.2 (fun h => hh (List.mem_append_left _ h))
        simp
        omega
      have hs' : SlR g 59 3 sl (l.map Kl.cells) := slR_keep hs hn fun b hb => hf b (slR_bel hs hb) (hsb b hb)
      have y7 := (Ext.refl g).fresh 59 [iv 0, iv 0, iv 0] d.cells
      have hdb := blk_fresh g 59 [iv 0, iv 0, iv 0] d.cells
      have n7 : (g.fresh 59 [iv 0, iv 0, iv 0] d.cells).nx = g.nx + 1 := rfl
      have hadd : add .i64 (i : Int) 1 = ((i + 1 : Nat) : Int) := by rw [add64 (by omega) (by omega)]; simp
      have g2 := (y7.blk h2.nx (by omega)).trans hg2
      have gc := (y7.blk h1.nx (by omega)).trans ((hf h1.nx hl1 h12).trans hc)
      have a7 := hap.ext y7
      unfold f13_l1
      simp only [gv, List.getD_cons_zero, asI_int, asK_int]
      rw [lt_t (by omega), ifB_true, hs'.ldA ag59 sz59 (by omega) (x := d.cells) (by simp [hd])]
      rw [al_st (zs := [iv 0, iv 0, iv 0]) (xs := d.cells) sz59 rfl rfl]
      generalize g.fresh 59 [iv 0, iv 0, iv 0] d.cells = h7 at *
      have f7 : ∀ q, q < h4.nx → q ≠ h2.nx → h7.blk q = h4.blk q := fun q hq hne => (y7.blk q (by omega)).trans (hf q hq hne)
      have nb : ∀ q, q < h4.nx → AM.blkOf sv ≠ some q := fun q hq e => by have := (a7.blkOf e).1; omega
      have gdn : AM.blkOf sv ≠ some g.nx := fun e => by
        have := (hap.blkOf e).2.1
        omega
      have k61' := fun {R : Type} (K : Value → H → Option R) => k61 (c := c) (a7.slR) K
      have ld22 : ∀ {R : Type} (K : Value → Option R), ld Try.prog h7 22 h2.nx (off 0 1) K = K sv := fun K => by rw [d22, cell_of g2]; rfl
      have ld59c : ∀ {R : Type} (K : Value → Option R), ld Try.prog h7 59 h1.nx 0 K = K (.agg c.cells.toArray) := fun K => by rw [d59, rd_all (n := 3) gc rfl]; rfl
      have ld59d : ∀ {R : Type} (K : Value → Option R), ld Try.prog h7 59 g.nx 0 K = K (.agg d.cells.toArray) := fun K => by rw [d59, rd_all (n := 3) hdb rfl]; rfl
      simp only [nx_eq]
      rw [d3, cell_of hdb, show d.cells[off 0 2]? = some (iv d.t) from rfl, Option.bind_some, asI_int, d3, cell_of gc, show c.cells[off 0 2]? = some (iv c.t) from rfl, Option.bind_some, asI_int]
      have one : ∀ (K : H → Option (Ex × List Value × H)), ∃ g' sv', (ld Try.prog h7 22 h2.nx (off 0 1) fun v19 => ld Try.prog h7 59 g.nx 0 fun v20 => bls Try.prog h7 22 1 [(0, v20)] fun v21 h15 => app Try.prog h15 22 22 v19 v21 fun v22 h16 => st Try.prog h16 22 h2.nx (off 0 1) v22 K) = K g' ∧
          h4.nx ≤ g'.nx ∧ (∀ q, q < h4.nx → q ≠ h2.nx → g'.blk q = h4.blk q) ∧ g'.blk h2.nx = some (.row [iv n, sv'] 24 true) ∧ AqR h4.nx g' 59 3 sv' ((acc ++ [d]).map Kl.cells) := by
        intro K
        obtain ⟨g', sv', e1, e2, e3, e4, e5⟩ := push13 d a7 g2 (by omega) hl2 (by omega)
        exact ⟨g', sv', by rw [ld22, ld59d]; exact e1 K, by omega, fun q hq hne => (e3 q (by omega) hne (nb q hq)).trans (f7 q hq hne), e4, e5⟩
      by_cases hlt : c.t < d.t
      · rw [lt_t hlt, ifB_true, ld22, ld59c, k61', asB_bool]
        by_cases hin : c ∈ acc
        · rw [decide_eq_true hin, Bool.not_true, ifB_false]
          have e : insS c acc d = acc ++ [d] := by unfold insS; rw [if_neg (fun h => h.2 hin)]
          obtain ⟨g', sv', o1, o2, o3, o4, o5⟩ := one (fun h17 => out .normal [(.int .i64 (add .i64 (i : Int) 1))] h17)
          refine ⟨[iv (i + 1 : Nat)], g', ?_, o2, o3, sv', o4, by rw [e]; exact o5, by rw [e]; exact keep1, rfl⟩
          refine o1.trans ?_
          rw [hadd]; rfl
        · rw [decide_eq_false hin, Bool.not_false, ifB_true, ld22, ld59c]
          have e : insS c acc d = acc ++ [c] ++ [d] := by unfold insS; rw [if_pos ⟨hlt, hin⟩]
          obtain ⟨g1, sv1, e1, e2, e3, e4, e5⟩ := push13 c a7 g2 (by omega) hl2 (by omega)
          have hdb1 : g1.blk g.nx = some (.row d.cells 59 true) := (e3 g.nx (by omega) (by omega) gdn).trans hdb
          obtain ⟨g3, sv3, i1, i2, i3, i4, i5⟩ := push13 d e5 e4 (by omega) hl2 (by simp; omega)
          refine ⟨[iv (i + 1 : Nat)], g3, ?_, by omega, fun q hq hne => ?_, sv3, i4, by rw [e]; exact i5, by rw [e]; refine ⟨?_, fun hh => absurd (by simp) hh⟩; have := hal.2 hin; simp; omega, rfl⟩
          · refine (e1 _).trans ?_
            rw [d22, cell_of e4, show ([iv n, sv1] : List Value)[off 0 1]? = some sv1 from rfl, Option.bind_some, d59, rd_all (n := 3) hdb1 rfl, Option.bind_some]
            refine (i1 _).trans ?_
            rw [hadd]; rfl
          · rw [i3 q (by omega) hne (fun e' => by have := (e5.blkOf e').1; omega), e3 q (by omega) hne (nb q hq)]
            exact f7 q hq hne
      · rw [lt_f (by omega), ifB_false]
        have e : insS c acc d = acc ++ [d] := by unfold insS; rw [if_neg (fun h => hlt h.1)]
        obtain ⟨g', sv', o1, o2, o3, o4, o5⟩ := one (fun h17 => out .normal [(.int .i64 (add .i64 (i : Int) 1))] h17)
        refine ⟨[iv (i + 1 : Nat)], g', ?_, o2, o3, sv', o4, by rw [e]; exact o5, by rw [e]; exact keep1, rfl⟩
        refine o1.trans ?_
        rw [hadd]; rfl)
  rw [foldI_foldl] at q5 q6
  exact ⟨_, g', sv, q1, q2, q3, q4, q5, q6⟩
end Go.AM
end
