/- The rows of the machine: the states behind each task. -/
import Derived.Test.YtnhmgokjijlhbaaRg
namespace Go.AM
open Go.Proofs

variable {k : Nat} {R : Type}

attribute [local simp] nx_eq nx_new nx_set blk_new blk_set asI_int asK_int asB_bool asP_ptr al_eq bx_eq len_slice onE_exit onE_ret onR_ret Value.cells d3 d22 d31 w3 cell_new cell_set rd_new rd_set off eq lt le ifB gv out eqF1 eqF2 eqF3 eqF4 eqF5 eqF6 eqF7 eqF8 ext20 ext21

theorem vals_len (task : Int) : ∀ (ps : List (Int × Int)) (i : Nat), (valsN task i ps).length = ps.length := by
  intro ps
  induction ps with
  | nil => intro i; rfl
  | cons p ps ih => intro i; simp [valsN, ih]

/-- What comes is a state. -/
theorem next_ok {l s o : List Int} {task : Int} (hr : ∀ x ∈ l, 1 ≤ x) (hst : stOk l s = true) (ho : nextP l s task = some o) : stOk l o = true := by
  obtain ⟨hlen, hp⟩ := stOk_iff.1 hst
  unfold nextP at ho
  split at ho
  · cases ho
  · rename_i h0
    cases ho
    rw [stOk_iff]
    refine ⟨by rw [vals_len, List.length_zip]; omega, ?_⟩
    have key : ∀ (l s : List Int) (i : Nat), (∀ x ∈ l, 1 ≤ x) → (∀ p ∈ l.zip s, 1 ≤ p.2 ∧ p.2 ≤ p.1) → 0 ∉ valsN task i (l.zip s) → ∀ p ∈ l.zip (valsN task i (l.zip s)), 1 ≤ p.2 ∧ p.2 ≤ p.1 := by
      intro l
      induction l with
      | nil => intro s i _ _ _ p hp; simp at hp
      | cons x l ih =>
        intro s i hr hp h0 p hpp
        cases s with
        | nil => simp [valsN] at hpp
        | cons y s =>
          simp only [List.zip_cons_cons, valsN, List.mem_cons, not_or] at h0 hpp
          have h1 := hp (x, y) (by simp)
          have h2 := hr x (by simp)
          simp only at h1
          rcases hpp with rfl | hpp
          · simp only [valN] at h0 ⊢
            by_cases hi : (i : Int) = task
            · rw [if_pos hi]; omega
            · rw [if_neg hi] at h0 ⊢; omega
          · exact ih s (i + 1) (fun z hz => hr z (by simp [hz])) (fun q hq => hp q (by simp [hq])) h0.2 p hpp
    exact key l s 0 hr hp h0

/-- The state behind a task, as a number; -1: it fails. -/
def aftP (ln : List Nat) (c : Nat) (i : Nat) : Int :=
  match nextP (nI ln) (nI (stateP ln c)) i with
  | none => -1
  | some o => codeP (nI ln) o

def rowP (ln : List Nat) (c : Nat) : List Int := (List.range ln.length).map (aftP ln c)

theorem state_ok {ln : List Nat} (hok : ∀ x ∈ ln, 1 ≤ x) (c : Nat) : stOk (nI ln) (nI (stateP ln c)) = true := by
  rw [stOk_iff]
  refine ⟨by simp [stateP, digR_len], fun p hp => ?_⟩
  rw [List.zip_map] at hp
  obtain ⟨q, hq, rfl⟩ := List.mem_map.1 hp
  have := digR_ok ln c hok q hq
  simp only [Prod.map_fst, Prod.map_snd]
  omega

theorem row_loop {v : Value} {ln : List Nat} {c : Nat} {g0 : H} (hl : SlR g0 3 1 v (cellsI (nI ln))) (ht : TaskI (nI ln)) (hc : c < 2 ^ 30) :
    ∃ sv h' b, lpGo (f54_l2 rn 200010 v [iv c] ln.length) 200010 [.slice none 0 0, iv 0] g0 = some (.exit 2, [sv, iv ln.length], h') ∧ Ext g0 h' ∧ g0.nx ≤ b ∧ IA h' b sv (rowP ln c) := by
  have h5 : ln.length ≤ 5 := by have := ht.len.2; simpa using this
  have h1 : 1 ≤ ln.length := by have := ht.len.1; simpa using this
  have hok : ∀ x ∈ ln, 1 ≤ x ∧ x ≤ 40 := fun x hx => by
    have := ht.rng (x : Int) (List.mem_map.2 ⟨x, hx, rfl⟩)
    omega
  have hst := state_ok (fun x hx => (hok x hx).1) c
  obtain ⟨ws', h', hlp, xg, sv, hap, rfl⟩ := lp_for (σ := Unit) (F := f54_l2 rn 200010 v [iv c] ln.length) (k := 200010) (l := List.range ln.length) (fun _ _ _ => ())
    (fun i _ ws g => Ext g0 g ∧ ∃ sv, AqR g0.nx g 3 1 sv (cellsI ((List.range i).map (aftP ln c))) ∧ ws = [sv, iv i]) 2 (ws := [.slice none 0 0, iv 0]) (h := g0) (s0 := ())
    ⟨.refl _, _, .nil, rfl⟩ (by rw [List.length_range]; omega)
    (by
      rintro _ ws g ⟨_, sv, _, rfl⟩
      simp [f54_l2])
    (by
      rintro i x _ ws g hx ⟨xg, sv, hap, rfl⟩
      have hi := (List.getElem?_eq_some_iff.1 hx).1
      rw [List.length_range] at hi
      have hadd : add .i64 (i : Int) 1 = (i : Int) + 1 := add64 (by omega) (by omega)
      obtain ⟨v3, ga, ba, e1, xa, ia⟩ := s89 (c := c) (hl.ext xg) h5 h1 hok hc
      obtain ⟨v5, q, gb, e2, xb, hN⟩ := s67 (task := (i : Int)) (hl.ext (xg.trans xa)) ia.slR ht hst
      have x8 := (xg.trans xa).trans xb
      have xab := xa.trans xb
      have a8 : AqR g0.nx gb 3 1 sv (cellsI ((List.range i).map (aftP ln c))) := hap.keep xab.nx fun q hq => xab.blk q (hap.blkOf hq).2.1
      have push : ∀ z : Int, z = aftP ln c i → ∃ v' h9, (∀ (K : Value → H → Option (Ex × List Value × H)), (bls Try.prog gb 22 1 [(0, iv z)] fun y h2 => app Try.prog h2 22 22 sv y K) = K v' h9) ∧ Ext g0 h9 ∧ AqR g0.nx h9 3 1 v' (cellsI ((List.range (i + 1)).map (aftP ln c))) := by
        intro z hz
        obtain ⟨v', h9, e9, a9, n9, k9, b9, hb9, hb9'⟩ := a8.push app22 app22 (bls22 z) rfl rfl (by simp; omega) x8.nx
        refine ⟨v', h9, fun K => e9 K, ⟨by have := x8.nx; omega, fun q hq => ?_⟩, ?_⟩
        · rw [k9 q (by have := x8.nx; omega) (fun e => by have := (a8.blkOf e).1; omega)]
          exact x8.blk q hq
        · have er : cellsI ((List.range (i + 1)).map (aftP ln c)) = cellsI ((List.range i).map (aftP ln c)) ++ [[iv z]] := by
            unfold cellsI
            rw [List.range_succ, List.map_append, List.map_append, hz]
            rfl
          rw [er]
          exact a9
      have c1 := fun (K : Value → H → Option (Ex × List Value × H)) => calls_eq (K := K) (xs := [_, _]) e1
      have c2 := fun (K : Value → H → Option (Ex × List Value × H)) => calls_eq (K := K) (xs := [_, _, _]) e2
      cases ho : nextP (nI ln) (nI (stateP ln c)) (i : Int) with
      | none =>
        rw [ho] at hN
        obtain ⟨rfl, rfl⟩ := hN
        obtain ⟨v', h9, e9, x9, a9⟩ := push (-1) (by unfold aftP; rw [ho])
        refine ⟨[v', iv ((i : Int) + 1)], h9, ?_, x9, v', a9, rfl⟩
        simp [f54_l2, hi, c1, c2, e9, hadd]
      | some o =>
        rw [ho] at hN
        obtain ⟨hso, rfl, _⟩ := hN
        have e3 := s66 (hl.ext x8) hso ht (next_ok (fun x hx => (ht.rng x hx).1) hst ho)
        have c3 := fun (K : Value → H → Option (Ex × List Value × H)) => calls_eq (K := K) (xs := [_, _]) e3
        obtain ⟨v', h9, e9, x9, a9⟩ := push (codeP (nI ln) o) (by unfold aftP; rw [ho])
        refine ⟨[v', iv ((i : Int) + 1)], h9, ?_, x9, v', a9, rfl⟩
        simp [f54_l2, hi, c1, c2, c3, e9, hadd])
  rw [List.length_range] at hap hlp
  obtain ⟨b, q1, q2, q3⟩ := hap.ia (by
    intro e
    have := congrArg List.length e
    simp only [List.length_map, List.length_range, List.length_nil] at this
    omega)
  exact ⟨sv, h', b, hlp, xg, q1, q3⟩

end Go.AM
