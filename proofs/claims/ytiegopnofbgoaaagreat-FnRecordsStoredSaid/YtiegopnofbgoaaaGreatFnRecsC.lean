/- impl.FlowBytes: its contract, out of those of its callees. -/
import Derived.Test.YtiegopnofbgoaaaGreatFnRecsB
import Derived.LoopTactic
import Derived.BigCall
import Derived.Deep.RegionHeld3
import Derived.Test.YtiegopnofbgoaaaGreatFnRecsA
set_option linter.unusedVariables false
set_option linter.unusedSimpArgs false
set_option linter.unusedSectionVars false
namespace Go.Proofs.YtiegopnofbgoaaaGreat.AWN
open Go Go.Shelf Go.RowKit Go.Proofs.Tryz
def qmv (x y:Nat→Str) (out:Str):Nat→Str
  | 0=>out
  | k + 1=>qmv x y out k ++ (x k ++ y k)
theorem put3 (wr:World) (a b c d e f:Nat) (z:Value) (T:TypeId):((((store ⟨wr.heap.size,0,none⟩ (.complex .f32 a b)).run prog (wr.alloc (.cells #[z,z,z] T))).andThen fun _ w' =>
    ((store ⟨wr.heap.size,1,none⟩ (.complex .f32 c d)).run prog w').andThen fun _ w'=>(store ⟨wr.heap.size,2,none⟩ (.complex .f32 e f)).run prog w').andThen fun _ w'=>Result.ok Next.skip w') = Result.ok Next.skip (wr.alloc (.cells #[.complex .f32 a b,.complex .f32 c d,.complex .f32 e f] T)):=by
  rw [st1 _ _ _ (by simp) _ rfl]
  dsimp only [Result.andThen]
  rw [st1 _ _ _ (by simp) _ rfl]
  dsimp only
  rw [st1 _ _ _ (by simp) _ rfl]
  rfl
set_option maxHeartbeats 4000000 in
set_option maxRecDepth 100000 in
theorem flow_walk (w:World) (a0 a1:Option Addr) (n cap0 n1 cap1:Nat) (R:Int) (rests:Bool) (P1 P2 P3 P1' P2' P3' Q1 Q2 Q3 Q1' Q2' Q3':Nat→Nat) (x y:Nat→Str) (s1 s2:Str)
    (hn:1 ≤ n∧n ≤ 16) (hn1:n1 = n) (hR:0 ≤ R∧R ≤ 50)
    (hin:∀ wr (k lo hi:Int),Calls prog 33 #[.int .i64 k,.int .i64 lo,.int .i64 hi] wr fun e w'=>e = .returned (.bool (decide (lo ≤ k∧k ≤ hi)))∧Below wr.heap.size wr w')
    (hb1:∀ wr,Calls prog 21 #[.int .i64 R,.int .i64 1] wr fun e w'=>e = .returned (.string (bstr s1))∧Below wr.heap.size wr w')
    (hb2:∀ wr,Calls prog 21 #[.int .i64 (if rests then 1 else 0),.int .i64 1] wr fun e w'=>e = .returned (.string (bstr s2))∧Below wr.heap.size wr w')
    (hx:∀ k,k < n→∀ wr,Calls prog 40 #[.agg #[.complex .f32 (P1 k) (P1' k),.complex .f32 (P2 k) (P2' k),.complex .f32 (P3 k) (P3' k)]] wr fun e w'=>e = .returned (.string (bstr (x k)))∧Below wr.heap.size wr w')
    (hy:∀ k,k < n→∀ wr,Calls prog 40 #[.agg #[.complex .f32 (Q1 k) (Q1' k),.complex .f32 (Q2 k) (Q2' k),.complex .f32 (Q3 k) (Q3' k)]] wr fun e w'=>e = .returned (.string (bstr (y k)))∧Below wr.heap.size wr w')
    (hc0:∀ k,k < n→∃ b o,a0 = some ⟨b,o,none⟩∧b < w.heap.size∧w.cell? ⟨b,o + k * 3,none⟩ = some (.complex .f32 (P1 k) (P1' k))∧w.cell? ⟨b,o + k * 3 + 1,none⟩ = some (.complex .f32 (P2 k) (P2' k))∧w.cell? ⟨b,o + k * 3 + 2,none⟩ = some (.complex .f32 (P3 k) (P3' k)))
    (hc1:∀ k,k < n→∃ b o,a1 = some ⟨b,o,none⟩∧b < w.heap.size∧w.cell? ⟨b,o + k * 3,none⟩ = some (.complex .f32 (Q1 k) (Q1' k))∧w.cell? ⟨b,o + k * 3 + 1,none⟩ = some (.complex .f32 (Q2 k) (Q2' k))∧w.cell? ⟨b,o + k * 3 + 2,none⟩ = some (.complex .f32 (Q3 k) (Q3' k)))
    (hlen:s1.length + s2.length ≤ 1000∧∀ k,(x k).length ≤ 1000∧(y k).length ≤ 1000) :
    Calls prog 19 #[.agg #[.slice a0 n cap0,.slice a1 n1 cap1,.int .i64 R,.bool rests]] w fun e w'=>e = .returned (.tuple #[.string (bstr (qmv x y (s1 ++ s2) n)),.bool true])∧Below w.heap.size w w':=by
  subst hn1
  obtain ⟨hl12,hlk⟩:=hlen
  have hs1:=qjh s1
  have hs2:=qjh s2
  obtain ⟨W0,hW0⟩:∃ W0,W0 = w.alloc (.cells #[.slice a0 n1 cap0,.slice a1 n1 cap1,.int .i64 R,.bool rests] 57):=⟨_,rfl⟩
  have z0:W0.heap.size = w.heap.size + 1:=by rw [hW0];simp
  have bel0:Below w.heap.size w W0:=by rw [hW0];exact (Below.refl _ w).alloc (Nat.le_refl _) _
  have g0:W0.cell? ⟨w.heap.size,0,none⟩ = some (.slice a0 n1 cap0):=by rw [hW0,Lib.cell_of_heap (heap_alloc_new w _)];rfl
  have g1:W0.cell? ⟨w.heap.size,1,none⟩ = some (.slice a1 n1 cap1):=by rw [hW0,Lib.cell_of_heap (heap_alloc_new w _)];rfl
  have g2:W0.cell? ⟨w.heap.size,2,none⟩ = some (.int .i64 R):=by rw [hW0,Lib.cell_of_heap (heap_alloc_new w _)];rfl
  have g3:W0.cell? ⟨w.heap.size,3,none⟩ = some (.bool rests):=by rw [hW0,Lib.cell_of_heap (heap_alloc_new w _)];rfl
  go_enter Tryz.func19,Tryz.ntmps19
  go_wp2_with (go_at_call 33;refine (hin _ _ _ _).mono ?_)
  rw [← hW0]
  first | rintro e w1 ⟨rfl,b1⟩ | rintro e w1 rfl b1
  have hd1:decide ((1:Int) ≤ (n1:Int)∧(n1:Int) ≤ 16) = true:=decide_eq_true ⟨by omega,by omega⟩
  have l1:w.heap.size < W0.heap.size:=by omega
  have g0:=(b1.cell (p:=⟨w.heap.size,0,none⟩) l1).trans g0
  have g1:=(b1.cell (p:=⟨w.heap.size,1,none⟩) l1).trans g1
  have g2:=(b1.cell (p:=⟨w.heap.size,2,none⟩) l1).trans g2
  have g3:=(b1.cell (p:=⟨w.heap.size,3,none⟩) l1).trans g3
  go_wp2_with (go_at_call 33;refine (hin _ _ _ _).mono ?_)
  first | rintro e w2 ⟨rfl,b2⟩ | rintro e w2 rfl b2
  have hd2:decide ((0:Int) ≤ R∧R ≤ 50) = true:=decide_eq_true hR
  have l2:w.heap.size < w1.heap.size:=by have:=b1.size;omega
  have g0:=(b2.cell (p:=⟨w.heap.size,0,none⟩) l2).trans g0
  have g1:=(b2.cell (p:=⟨w.heap.size,1,none⟩) l2).trans g1
  have g2:=(b2.cell (p:=⟨w.heap.size,2,none⟩) l2).trans g2
  have g3:=(b2.cell (p:=⟨w.heap.size,3,none⟩) l2).trans g3
  have l3:w.heap.size < w2.heap.size:=by have:=b2.size;omega
  have bel2:Below w.heap.size w w2:=(bel0.trans (b1.mono (by omega))).trans (b2.mono (by omega))
  clear b1 b2 hW0 z0 bel0 l1 l2
  obtain ⟨W2,hW2⟩:∃ W2,W2 = w2.alloc (.cells #[.pointer none,.slice none 0 0] 89):=⟨_,rfl⟩
  have hB2:Lib.IsBuilder 89 5 w2.heap.size w2.heap.size [] W2:=by rw [hW2];exact Lib.fresh_isBuilder 89 5 w2
  have b2:Below w2.heap.size w2 W2:=by rw [hW2];exact (Below.refl _ w2).alloc (Nat.le_refl _) _
  have k0:=(b2.cell (p:=⟨w.heap.size,0,none⟩) l3).trans g0
  have k1:=(b2.cell (p:=⟨w.heap.size,1,none⟩) l3).trans g1
  have k2:=(b2.cell (p:=⟨w.heap.size,2,none⟩) l3).trans g2
  have k3:=(b2.cell (p:=⟨w.heap.size,3,none⟩) l3).trans g3
  cases rests
  · simp only [Bool.false_eq_true,if_false] at hb2
    go_wp2_with (go_at_call 21;refine (hb1 _).mono ?_)
    rw [← hW2]
    first | rintro e w3 ⟨rfl,b3⟩ | rintro e w3 rfl b3
    have hB3:=qit hB2 b3
    have b23:=b2.trans (b3.mono b2.size)
    go_wp2_with (go_at_call 21;refine (hb2 _).mono ?_)
    first | rintro e w4 ⟨rfl,b4⟩ | rintro e w4 rfl b4
    have hB4:=qit hB3 b4
    have b24:=b23.trans (b4.mono b23.size)
    clear hB2 hB3 b2 b3 b4 b23 k0 k1 k2 k3
    go_wp2_with (go_at_call 39;refine (qx5 _ _ _ _ _ hB4 ?c1 b24.size).mono ?_)
    case c1 =>
      rw [qio,qjh,List.length_append]
      show 0 + _ ≤ _
      omega
    first | rintro e w5 ⟨rfl,hB5,b5⟩ | rintro e w5 rfl hB5 b5
    rw [qio,qn7,List.nil_append] at hB5
    have b25:=b24.trans b5
    clear hB4 b24 b5
    have k0:=(b25.cell (p:=⟨w.heap.size,0,none⟩) l3).trans g0
    have hB5:Lib.IsBuilder 89 5 w2.heap.size w2.heap.size (Lib.byteCells (qmv x y (s1 ++ s2) 0)) w5:=Or.inr hB5
    go_wp2
    go_loopw [41] (fun i wr=>∃ k:Nat,k ≤ n1∧i = .int .i64 k∧Lib.IsBuilder 89 5 w2.heap.size w2.heap.size (Lib.byteCells (qmv x y (s1 ++ s2) k)) wr∧Below w2.heap.size w2 wr)
      (fun i _=>n1 - (intOf i).toNat)
    case atStart=>exact ⟨0,Nat.zero_le _,rfl,hB5,b25⟩
    case round =>
      obtain ⟨k,hk,rfl,hB,bel⟩:=hrel
      clear hB5 b25 k0
      by_cases hlt:k < n1
      · obtain ⟨b,o,rfl,hbl,c1,c2,c3⟩:=hc0 k hlt
        obtain ⟨b',o',rfl,hbl',d1,d2,d3⟩:=hc1 k hlt
        clear hc0 hc1
        have hs:=bel2.size
        have e1:=(bel.cell (p:=⟨b,o + k * 3,none⟩) (by show b < _;omega)).trans ((bel2.cell (p:=⟨b,o + k * 3,none⟩) hbl).trans c1)
        have e2:=(bel.cell (p:=⟨b,o + k * 3 + 1,none⟩) (by show b < _;omega)).trans ((bel2.cell (p:=⟨b,o + k * 3 + 1,none⟩) hbl).trans c2)
        have e3:=(bel.cell (p:=⟨b,o + k * 3 + 2,none⟩) (by show b < _;omega)).trans ((bel2.cell (p:=⟨b,o + k * 3 + 2,none⟩) hbl).trans c3)
        go_wp2
        rw [put3]
        obtain ⟨Wv,hWv⟩:∃ Wv,Wv = wr.alloc (.cells #[.complex .f32 (P1 k) (P1' k),.complex .f32 (P2 k) (P2' k),.complex .f32 (P3 k) (P3' k)] 26):=⟨_,rfl⟩
        have hv:=heap_alloc_new wr (.cells #[.complex .f32 (P1 k) (P1' k),.complex .f32 (P2 k) (P2' k),.complex .f32 (P3 k) (P3' k)] 26)
        rw [← hWv] at hv ⊢
        have bv:Below wr.heap.size wr Wv:=by rw [hWv];exact (Below.refl _ wr).alloc (Nat.le_refl _) _
        have szv:Wv.heap.size = wr.heap.size + 1:=by rw [hWv];simp
        have bel':Below w2.heap.size w2 Wv:=bel.trans (bv.mono bel.size)
        have hB':=qit hB bv
        have v0:Wv.cell? ⟨wr.heap.size,0,none⟩ = some (.complex .f32 (P1 k) (P1' k)):=by rw [Lib.cell_of_heap hv];rfl
        have v1:Wv.cell? ⟨wr.heap.size,1,none⟩ = some (.complex .f32 (P2 k) (P2' k)):=by rw [Lib.cell_of_heap hv];rfl
        have v2:Wv.cell? ⟨wr.heap.size,2,none⟩ = some (.complex .f32 (P3 k) (P3' k)):=by rw [Lib.cell_of_heap hv];rfl
        have f1:=(bel'.cell (p:=⟨w.heap.size,1,none⟩) l3).trans g1
        have d1:=(bel'.cell (p:=⟨b',o' + k * 3,none⟩) (by show b' < _;omega)).trans ((bel2.cell (p:=⟨b',o' + k * 3,none⟩) hbl').trans d1)
        have d2:=(bel'.cell (p:=⟨b',o' + k * 3 + 1,none⟩) (by show b' < _;omega)).trans ((bel2.cell (p:=⟨b',o' + k * 3 + 1,none⟩) hbl').trans d2)
        have d3:=(bel'.cell (p:=⟨b',o' + k * 3 + 2,none⟩) (by show b' < _;omega)).trans ((bel2.cell (p:=⟨b',o' + k * 3 + 2,none⟩) hbl').trans d3)
        have hx:=hx k hlt
        have hy:=hy k hlt
        have hxs:=qjh (x k)
        have hys:=qjh (y k)
        have hk1:=(hlk k).1
        have hk2:=(hlk k).2
        have hsum:(9223372036854775807 < (x k).length + (y k).length) = False:=eq_false (by omega)
        have hsum':(9223372036854775807 < (bstr (x k)).size + (bstr (y k)).size) = False:=eq_false (by omega)
        clear hWv e1 e2 e3 c1 c2 c3
        have hVlt:wr.heap.size < Wv.heap.size:=by omega
        have hVge:w2.heap.size < wr.heap.size:=by
          rcases hB with h | h
          · exact h.lt
          · exact h.lt
        generalize wr.heap.size = V at v0 v1 v2 szv hVlt hVge bv hv ⊢
        have hVk:∀ w':World,w'.heap[V]? = some (.cells #[.complex .f32 (P1 k) (P1' k),.complex .f32 (P2 k) (P2' k),.complex .f32 (P3 k) (P3' k)] 26 (0,0))→w'.cell? ⟨V,0,none⟩ = some (.complex .f32 (P1 k) (P1' k))∧w'.cell? ⟨V,1,none⟩ = some (.complex .f32 (P2 k) (P2' k))∧w'.cell? ⟨V,2,none⟩ = some (.complex .f32 (P3 k) (P3' k)):=fun w' h=>⟨by rw [Lib.cell_of_heap h];rfl,by rw [Lib.cell_of_heap h];rfl,by rw [Lib.cell_of_heap h];rfl⟩
        have kept:∀ w',Below Wv.heap.size Wv w'→w'.cell? ⟨V,0,none⟩ = some (.complex .f32 (P1 k) (P1' k))∧w'.cell? ⟨V,1,none⟩ = some (.complex .f32 (P2 k) (P2' k))∧w'.cell? ⟨V,2,none⟩ = some (.complex .f32 (P3 k) (P3' k))∧w'.cell? ⟨w.heap.size,1,none⟩ = some (.slice (some ⟨b',o',none⟩) n1 cap1)∧w'.cell? ⟨b',o' + k * 3,none⟩ = some (.complex .f32 (Q1 k) (Q1' k))∧w'.cell? ⟨b',o' + k * 3 + 1,none⟩ = some (.complex .f32 (Q2 k) (Q2' k))∧w'.cell? ⟨b',o' + k * 3 + 2,none⟩ = some (.complex .f32 (Q3 k) (Q3' k)):=fun w' h =>
          ⟨(h.cell hVlt).trans v0,(h.cell hVlt).trans v1,(h.cell hVlt).trans v2,(h.cell (by show w.heap.size < _;have:=bel'.size;omega)).trans f1,(h.cell (by show b' < _;have:=bel'.size;omega)).trans d1,(h.cell (by show b' < _;have:=bel'.size;omega)).trans d2,(h.cell (by show b' < _;have:=bel'.size;omega)).trans d3⟩
        have hx':∀ wr',Below Wv.heap.size Wv wr'→Calls prog 40 #[.agg #[.complex .f32 (P1 k) (P1' k),.complex .f32 (P2 k) (P2' k),.complex .f32 (P3 k) (P3' k)]] wr' fun e w'=>e = .returned (.string (bstr (x k)))∧Below Wv.heap.size Wv w'∧w'.cell? ⟨V,0,none⟩ = some (.complex .f32 (P1 k) (P1' k))∧w'.cell? ⟨V,1,none⟩ = some (.complex .f32 (P2 k) (P2' k))∧w'.cell? ⟨V,2,none⟩ = some (.complex .f32 (P3 k) (P3' k))∧w'.cell? ⟨w.heap.size,1,none⟩ = some (.slice (some ⟨b',o',none⟩) n1 cap1)∧w'.cell? ⟨b',o' + k * 3,none⟩ = some (.complex .f32 (Q1 k) (Q1' k))∧w'.cell? ⟨b',o' + k * 3 + 1,none⟩ = some (.complex .f32 (Q2 k) (Q2' k))∧w'.cell? ⟨b',o' + k * 3 + 2,none⟩ = some (.complex .f32 (Q3 k) (Q3' k)):=fun wr' h=>(hx wr').mono fun e w' h' =>
          have q:=h.trans (h'.2.mono h.size)
          ⟨h'.1,q,kept w' q⟩
        have hy':∀ wr',Below Wv.heap.size Wv wr'→Calls prog 40 #[.agg #[.complex .f32 (Q1 k) (Q1' k),.complex .f32 (Q2 k) (Q2' k),.complex .f32 (Q3 k) (Q3' k)]] wr' fun e w'=>e = .returned (.string (bstr (y k)))∧Below Wv.heap.size Wv w'∧w'.cell? ⟨V,0,none⟩ = some (.complex .f32 (P1 k) (P1' k))∧w'.cell? ⟨V,1,none⟩ = some (.complex .f32 (P2 k) (P2' k))∧w'.cell? ⟨V,2,none⟩ = some (.complex .f32 (P3 k) (P3' k))∧w'.cell? ⟨w.heap.size,1,none⟩ = some (.slice (some ⟨b',o',none⟩) n1 cap1)∧w'.cell? ⟨b',o' + k * 3,none⟩ = some (.complex .f32 (Q1 k) (Q1' k))∧w'.cell? ⟨b',o' + k * 3 + 1,none⟩ = some (.complex .f32 (Q2 k) (Q2' k))∧w'.cell? ⟨b',o' + k * 3 + 2,none⟩ = some (.complex .f32 (Q3 k) (Q3' k)):=fun wr' h=>(hy wr').mono fun e w' h' =>
          have q:=h.trans (h'.2.mono h.size)
          ⟨h'.1,q,kept w' q⟩
        have fl:∀ j,(qmv x y (s1 ++ s2) j).length ≤ 1000 + 2000 * j:=fun j=>by
          induction j with
          | zero=>show (s1 ++ s2).length ≤ _;rw [List.length_append];omega
          | succ j ih =>
            show (qmv x y (s1 ++ s2) j ++ (x j ++ y j)).length ≤ _
            have h1:=hlk j
            rw [List.length_append,List.length_append];omega
        have ws':∀ wr',Below Wv.heap.size Wv wr'→Calls prog 39 #[.pointer (some ⟨w2.heap.size,0,none⟩),.string (bstr (x k) ++ bstr (y k))] wr' fun e w'=>e = .returned (.tuple #[.int .i64 (bstr (x k) ++ bstr (y k)).size,.nilIface])∧Lib.IsBuilder 89 5 w2.heap.size w2.heap.size (Lib.byteCells (qmv x y (s1 ++ s2) (k + 1))) w'∧Below w2.heap.size w2 w'∧w'.cell? ⟨V,0,none⟩ = some (.complex .f32 (P1 k) (P1' k))∧w'.cell? ⟨V,1,none⟩ = some (.complex .f32 (P2 k) (P2' k))∧w'.cell? ⟨V,2,none⟩ = some (.complex .f32 (P3 k) (P3' k))∧w'.cell? ⟨w.heap.size,1,none⟩ = some (.slice (some ⟨b',o',none⟩) n1 cap1)∧w'.cell? ⟨b',o' + k * 3,none⟩ = some (.complex .f32 (Q1 k) (Q1' k))∧w'.cell? ⟨b',o' + k * 3 + 1,none⟩ = some (.complex .f32 (Q2 k) (Q2' k))∧w'.cell? ⟨b',o' + k * 3 + 2,none⟩ = some (.complex .f32 (Q3 k) (Q3' k)):=fun wr' h=>by
          refine (qsy w2.heap.size w2.heap.size _ (bstr (x k) ++ bstr (y k)) wr' (qit hB' h) ?_ (Nat.le_trans bel'.size h.size)).mono fun e w' h'=>⟨h'.1,Or.inr ?_,bel'.trans ((h.mono bel'.size).trans h'.2.2.1),(hVk w' (h'.2.2.2 _ _ ((h.block V hVlt).trans hv) (by intro hh;cases hh;omega) (fun c fz hh=>by cases hh))).1,(hVk w' (h'.2.2.2 _ _ ((h.block V hVlt).trans hv) (by intro hh;cases hh;omega) (fun c fz hh=>by cases hh))).2.1,(hVk w' (h'.2.2.2 _ _ ((h.block V hVlt).trans hv) (by intro hh;cases hh;omega) (fun c fz hh=>by cases hh))).2.2,(h'.2.2.1.cell l3).trans (kept wr' h).2.2.2.1,(h'.2.2.1.cell (by show b' < _;omega)).trans (kept wr' h).2.2.2.2.1,(h'.2.2.1.cell (by show b' < _;omega)).trans (kept wr' h).2.2.2.2.2.1,(h'.2.2.1.cell (by show b' < _;omega)).trans (kept wr' h).2.2.2.2.2.2⟩
          · rw [qio,qjh,Lib.byteCells_length,List.length_append]
            have:=fl k
            omega
          · have:=h'.2.1
            rw [qio,qn7,qq6] at this
            exact this
        obtain ⟨Ph,hPh,hPx,hPy⟩:∃ Ph:Nat→Nat→Nat→Nat→Nat→Nat→Str→Prop,(∀ a1 a1' a2 a2' a3 a3' s,Ph a1 a1' a2 a2' a3 a3' s→∀ wr',Below Wv.heap.size Wv wr'→Calls prog 40 #[.agg #[.complex .f32 a1 a1',.complex .f32 a2 a2',.complex .f32 a3 a3']] wr' fun e w'=>e = .returned (.string (bstr s))∧Below Wv.heap.size Wv w'∧w'.cell? ⟨V,0,none⟩ = some (.complex .f32 (P1 k) (P1' k))∧w'.cell? ⟨V,1,none⟩ = some (.complex .f32 (P2 k) (P2' k))∧w'.cell? ⟨V,2,none⟩ = some (.complex .f32 (P3 k) (P3' k))∧w'.cell? ⟨w.heap.size,1,none⟩ = some (.slice (some ⟨b',o',none⟩) n1 cap1)∧w'.cell? ⟨b',o' + k * 3,none⟩ = some (.complex .f32 (Q1 k) (Q1' k))∧w'.cell? ⟨b',o' + k * 3 + 1,none⟩ = some (.complex .f32 (Q2 k) (Q2' k))∧w'.cell? ⟨b',o' + k * 3 + 2,none⟩ = some (.complex .f32 (Q3 k) (Q3' k)))∧Ph (P1 k) (P1' k) (P2 k) (P2' k) (P3 k) (P3' k) (x k)∧Ph (Q1 k) (Q1' k) (Q2 k) (Q2' k) (Q3 k) (Q3' k) (y k) :=
          ⟨fun a1 a1' a2 a2' a3 a3' s=>∀ wr',Below Wv.heap.size Wv wr'→Calls prog 40 #[.agg #[.complex .f32 a1 a1',.complex .f32 a2 a2',.complex .f32 a3 a3']] wr' fun e w'=>e = .returned (.string (bstr s))∧Below Wv.heap.size Wv w'∧w'.cell? ⟨V,0,none⟩ = some (.complex .f32 (P1 k) (P1' k))∧w'.cell? ⟨V,1,none⟩ = some (.complex .f32 (P2 k) (P2' k))∧w'.cell? ⟨V,2,none⟩ = some (.complex .f32 (P3 k) (P3' k))∧w'.cell? ⟨w.heap.size,1,none⟩ = some (.slice (some ⟨b',o',none⟩) n1 cap1)∧w'.cell? ⟨b',o' + k * 3,none⟩ = some (.complex .f32 (Q1 k) (Q1' k))∧w'.cell? ⟨b',o' + k * 3 + 1,none⟩ = some (.complex .f32 (Q2 k) (Q2' k))∧w'.cell? ⟨b',o' + k * 3 + 2,none⟩ = some (.complex .f32 (Q3 k) (Q3' k)),fun _ _ _ _ _ _ _ h=>h,hx',hy'⟩
        clear hB bel bv hB' bel' kept hx hy hVk hv hx' hy'
        go_wp2
        go_region_held3 (fun w'=>w'.cell? ⟨V,0,none⟩ = some (.complex .f32 (P1 k) (P1' k))∧w'.cell? ⟨V,1,none⟩ = some (.complex .f32 (P2 k) (P2' k))∧w'.cell? ⟨V,2,none⟩ = some (.complex .f32 (P3 k) (P3' k))∧w'.cell? ⟨w.heap.size,1,none⟩ = some (.slice (some ⟨b',o',none⟩) n1 cap1)∧w'.cell? ⟨b',o' + k * 3,none⟩ = some (.complex .f32 (Q1 k) (Q1' k))∧w'.cell? ⟨b',o' + k * 3 + 1,none⟩ = some (.complex .f32 (Q2 k) (Q2' k))∧w'.cell? ⟨b',o' + k * 3 + 2,none⟩ = some (.complex .f32 (Q3 k) (Q3' k)))
          (first | exact ⟨q0,q1,q2,q3,q4,q5,q6⟩ | exact ⟨v0,v1,v2,f1,d1,d2,d3⟩)
          (first
            | (go_at_call 40;refine (hPh _ _ _ _ _ _ _ (by assumption) _ (by first | assumption | exact (Below.refl _ _).drew | exact Below.refl _ _)).mono ?_;rintro e w' ⟨rfl,q,q0,q1,q2,q3,q4,q5,q6⟩)
            | (go_at_call 39;refine (ws' _ (by first | assumption | exact (Below.refl _ _).drew | exact Below.refl _ _)).mono ?_;rintro e w' ⟨rfl,hB6,b6,q0,q1,q2,q3,q4,q5,q6⟩))
        all_goals (
          go_wp2
          go_roundw
          case rel=>exact ⟨k + 1,by omega,by go_num,hB6,b6⟩
          case measure=>simp [intOf];omega)
      · have hke:k = n1:=by omega
        subst hke
        go_wp2_with (go_at_call 42;refine (qsv _ _ _ _ hB bel.size).mono ?_)
        first | rintro e w3 ⟨rfl,b3⟩ | rintro e w3 rfl b3
        go_wp2
        go_ret2
        exact ⟨rfl,bel2.trans ((bel.trans b3).mono (Nat.le_of_lt l3))⟩
  · simp only [if_true] at hb2
    go_wp2_with (go_at_call 21;refine (hb1 _).mono ?_)
    rw [← hW2]
    first | rintro e w3 ⟨rfl,b3⟩ | rintro e w3 rfl b3
    have hB3:=qit hB2 b3
    have b23:=b2.trans (b3.mono b2.size)
    go_wp2_with (go_at_call 21;refine (hb2 _).mono ?_)
    first | rintro e w4 ⟨rfl,b4⟩ | rintro e w4 rfl b4
    have hB4:=qit hB3 b4
    have b24:=b23.trans (b4.mono b23.size)
    clear hB2 hB3 b2 b3 b4 b23 k0 k1 k2 k3
    go_wp2_with (go_at_call 39;refine (qx5 _ _ _ _ _ hB4 ?c1 b24.size).mono ?_)
    case c1 =>
      rw [qio,qjh,List.length_append]
      show 0 + _ ≤ _
      omega
    first | rintro e w5 ⟨rfl,hB5,b5⟩ | rintro e w5 rfl hB5 b5
    rw [qio,qn7,List.nil_append] at hB5
    have b25:=b24.trans b5
    clear hB4 b24 b5
    have k0:=(b25.cell (p:=⟨w.heap.size,0,none⟩) l3).trans g0
    have hB5:Lib.IsBuilder 89 5 w2.heap.size w2.heap.size (Lib.byteCells (qmv x y (s1 ++ s2) 0)) w5:=Or.inr hB5
    go_wp2
    go_loopw [41] (fun i wr=>∃ k:Nat,k ≤ n1∧i = .int .i64 k∧Lib.IsBuilder 89 5 w2.heap.size w2.heap.size (Lib.byteCells (qmv x y (s1 ++ s2) k)) wr∧Below w2.heap.size w2 wr)
      (fun i _=>n1 - (intOf i).toNat)
    case atStart=>exact ⟨0,Nat.zero_le _,rfl,hB5,b25⟩
    case round =>
      obtain ⟨k,hk,rfl,hB,bel⟩:=hrel
      clear hB5 b25 k0
      by_cases hlt:k < n1
      · obtain ⟨b,o,rfl,hbl,c1,c2,c3⟩:=hc0 k hlt
        obtain ⟨b',o',rfl,hbl',d1,d2,d3⟩:=hc1 k hlt
        clear hc0 hc1
        have hs:=bel2.size
        have e1:=(bel.cell (p:=⟨b,o + k * 3,none⟩) (by show b < _;omega)).trans ((bel2.cell (p:=⟨b,o + k * 3,none⟩) hbl).trans c1)
        have e2:=(bel.cell (p:=⟨b,o + k * 3 + 1,none⟩) (by show b < _;omega)).trans ((bel2.cell (p:=⟨b,o + k * 3 + 1,none⟩) hbl).trans c2)
        have e3:=(bel.cell (p:=⟨b,o + k * 3 + 2,none⟩) (by show b < _;omega)).trans ((bel2.cell (p:=⟨b,o + k * 3 + 2,none⟩) hbl).trans c3)
        go_wp2
        rw [put3]
        obtain ⟨Wv,hWv⟩:∃ Wv,Wv = wr.alloc (.cells #[.complex .f32 (P1 k) (P1' k),.complex .f32 (P2 k) (P2' k),.complex .f32 (P3 k) (P3' k)] 26):=⟨_,rfl⟩
        have hv:=heap_alloc_new wr (.cells #[.complex .f32 (P1 k) (P1' k),.complex .f32 (P2 k) (P2' k),.complex .f32 (P3 k) (P3' k)] 26)
        rw [← hWv] at hv ⊢
        have bv:Below wr.heap.size wr Wv:=by rw [hWv];exact (Below.refl _ wr).alloc (Nat.le_refl _) _
        have szv:Wv.heap.size = wr.heap.size + 1:=by rw [hWv];simp
        have bel':Below w2.heap.size w2 Wv:=bel.trans (bv.mono bel.size)
        have hB':=qit hB bv
        have v0:Wv.cell? ⟨wr.heap.size,0,none⟩ = some (.complex .f32 (P1 k) (P1' k)):=by rw [Lib.cell_of_heap hv];rfl
        have v1:Wv.cell? ⟨wr.heap.size,1,none⟩ = some (.complex .f32 (P2 k) (P2' k)):=by rw [Lib.cell_of_heap hv];rfl
        have v2:Wv.cell? ⟨wr.heap.size,2,none⟩ = some (.complex .f32 (P3 k) (P3' k)):=by rw [Lib.cell_of_heap hv];rfl
        have f1:=(bel'.cell (p:=⟨w.heap.size,1,none⟩) l3).trans g1
        have d1:=(bel'.cell (p:=⟨b',o' + k * 3,none⟩) (by show b' < _;omega)).trans ((bel2.cell (p:=⟨b',o' + k * 3,none⟩) hbl').trans d1)
        have d2:=(bel'.cell (p:=⟨b',o' + k * 3 + 1,none⟩) (by show b' < _;omega)).trans ((bel2.cell (p:=⟨b',o' + k * 3 + 1,none⟩) hbl').trans d2)
        have d3:=(bel'.cell (p:=⟨b',o' + k * 3 + 2,none⟩) (by show b' < _;omega)).trans ((bel2.cell (p:=⟨b',o' + k * 3 + 2,none⟩) hbl').trans d3)
        have hx:=hx k hlt
        have hy:=hy k hlt
        have hxs:=qjh (x k)
        have hys:=qjh (y k)
        have hk1:=(hlk k).1
        have hk2:=(hlk k).2
        have hsum:(9223372036854775807 < (x k).length + (y k).length) = False:=eq_false (by omega)
        have hsum':(9223372036854775807 < (bstr (x k)).size + (bstr (y k)).size) = False:=eq_false (by omega)
        clear hWv e1 e2 e3 c1 c2 c3
        have hVlt:wr.heap.size < Wv.heap.size:=by omega
        have hVge:w2.heap.size < wr.heap.size:=by
          rcases hB with h | h
          · exact h.lt
          · exact h.lt
        generalize wr.heap.size = V at v0 v1 v2 szv hVlt hVge bv hv ⊢
        have hVk:∀ w':World,w'.heap[V]? = some (.cells #[.complex .f32 (P1 k) (P1' k),.complex .f32 (P2 k) (P2' k),.complex .f32 (P3 k) (P3' k)] 26 (0,0))→w'.cell? ⟨V,0,none⟩ = some (.complex .f32 (P1 k) (P1' k))∧w'.cell? ⟨V,1,none⟩ = some (.complex .f32 (P2 k) (P2' k))∧w'.cell? ⟨V,2,none⟩ = some (.complex .f32 (P3 k) (P3' k)):=fun w' h=>⟨by rw [Lib.cell_of_heap h];rfl,by rw [Lib.cell_of_heap h];rfl,by rw [Lib.cell_of_heap h];rfl⟩
        have kept:∀ w',Below Wv.heap.size Wv w'→w'.cell? ⟨V,0,none⟩ = some (.complex .f32 (P1 k) (P1' k))∧w'.cell? ⟨V,1,none⟩ = some (.complex .f32 (P2 k) (P2' k))∧w'.cell? ⟨V,2,none⟩ = some (.complex .f32 (P3 k) (P3' k))∧w'.cell? ⟨w.heap.size,1,none⟩ = some (.slice (some ⟨b',o',none⟩) n1 cap1)∧w'.cell? ⟨b',o' + k * 3,none⟩ = some (.complex .f32 (Q1 k) (Q1' k))∧w'.cell? ⟨b',o' + k * 3 + 1,none⟩ = some (.complex .f32 (Q2 k) (Q2' k))∧w'.cell? ⟨b',o' + k * 3 + 2,none⟩ = some (.complex .f32 (Q3 k) (Q3' k)):=fun w' h =>
          ⟨(h.cell hVlt).trans v0,(h.cell hVlt).trans v1,(h.cell hVlt).trans v2,(h.cell (by show w.heap.size < _;have:=bel'.size;omega)).trans f1,(h.cell (by show b' < _;have:=bel'.size;omega)).trans d1,(h.cell (by show b' < _;have:=bel'.size;omega)).trans d2,(h.cell (by show b' < _;have:=bel'.size;omega)).trans d3⟩
        have hx':∀ wr',Below Wv.heap.size Wv wr'→Calls prog 40 #[.agg #[.complex .f32 (P1 k) (P1' k),.complex .f32 (P2 k) (P2' k),.complex .f32 (P3 k) (P3' k)]] wr' fun e w'=>e = .returned (.string (bstr (x k)))∧Below Wv.heap.size Wv w'∧w'.cell? ⟨V,0,none⟩ = some (.complex .f32 (P1 k) (P1' k))∧w'.cell? ⟨V,1,none⟩ = some (.complex .f32 (P2 k) (P2' k))∧w'.cell? ⟨V,2,none⟩ = some (.complex .f32 (P3 k) (P3' k))∧w'.cell? ⟨w.heap.size,1,none⟩ = some (.slice (some ⟨b',o',none⟩) n1 cap1)∧w'.cell? ⟨b',o' + k * 3,none⟩ = some (.complex .f32 (Q1 k) (Q1' k))∧w'.cell? ⟨b',o' + k * 3 + 1,none⟩ = some (.complex .f32 (Q2 k) (Q2' k))∧w'.cell? ⟨b',o' + k * 3 + 2,none⟩ = some (.complex .f32 (Q3 k) (Q3' k)):=fun wr' h=>(hx wr').mono fun e w' h' =>
          have q:=h.trans (h'.2.mono h.size)
          ⟨h'.1,q,kept w' q⟩
        have hy':∀ wr',Below Wv.heap.size Wv wr'→Calls prog 40 #[.agg #[.complex .f32 (Q1 k) (Q1' k),.complex .f32 (Q2 k) (Q2' k),.complex .f32 (Q3 k) (Q3' k)]] wr' fun e w'=>e = .returned (.string (bstr (y k)))∧Below Wv.heap.size Wv w'∧w'.cell? ⟨V,0,none⟩ = some (.complex .f32 (P1 k) (P1' k))∧w'.cell? ⟨V,1,none⟩ = some (.complex .f32 (P2 k) (P2' k))∧w'.cell? ⟨V,2,none⟩ = some (.complex .f32 (P3 k) (P3' k))∧w'.cell? ⟨w.heap.size,1,none⟩ = some (.slice (some ⟨b',o',none⟩) n1 cap1)∧w'.cell? ⟨b',o' + k * 3,none⟩ = some (.complex .f32 (Q1 k) (Q1' k))∧w'.cell? ⟨b',o' + k * 3 + 1,none⟩ = some (.complex .f32 (Q2 k) (Q2' k))∧w'.cell? ⟨b',o' + k * 3 + 2,none⟩ = some (.complex .f32 (Q3 k) (Q3' k)):=fun wr' h=>(hy wr').mono fun e w' h' =>
          have q:=h.trans (h'.2.mono h.size)
          ⟨h'.1,q,kept w' q⟩
        have fl:∀ j,(qmv x y (s1 ++ s2) j).length ≤ 1000 + 2000 * j:=fun j=>by
          induction j with
          | zero=>show (s1 ++ s2).length ≤ _;rw [List.length_append];omega
          | succ j ih =>
            show (qmv x y (s1 ++ s2) j ++ (x j ++ y j)).length ≤ _
            have h1:=hlk j
            rw [List.length_append,List.length_append];omega
        have ws':∀ wr',Below Wv.heap.size Wv wr'→Calls prog 39 #[.pointer (some ⟨w2.heap.size,0,none⟩),.string (bstr (x k) ++ bstr (y k))] wr' fun e w'=>e = .returned (.tuple #[.int .i64 (bstr (x k) ++ bstr (y k)).size,.nilIface])∧Lib.IsBuilder 89 5 w2.heap.size w2.heap.size (Lib.byteCells (qmv x y (s1 ++ s2) (k + 1))) w'∧Below w2.heap.size w2 w'∧w'.cell? ⟨V,0,none⟩ = some (.complex .f32 (P1 k) (P1' k))∧w'.cell? ⟨V,1,none⟩ = some (.complex .f32 (P2 k) (P2' k))∧w'.cell? ⟨V,2,none⟩ = some (.complex .f32 (P3 k) (P3' k))∧w'.cell? ⟨w.heap.size,1,none⟩ = some (.slice (some ⟨b',o',none⟩) n1 cap1)∧w'.cell? ⟨b',o' + k * 3,none⟩ = some (.complex .f32 (Q1 k) (Q1' k))∧w'.cell? ⟨b',o' + k * 3 + 1,none⟩ = some (.complex .f32 (Q2 k) (Q2' k))∧w'.cell? ⟨b',o' + k * 3 + 2,none⟩ = some (.complex .f32 (Q3 k) (Q3' k)):=fun wr' h=>by
          refine (qsy w2.heap.size w2.heap.size _ (bstr (x k) ++ bstr (y k)) wr' (qit hB' h) ?_ (Nat.le_trans bel'.size h.size)).mono fun e w' h'=>⟨h'.1,Or.inr ?_,bel'.trans ((h.mono bel'.size).trans h'.2.2.1),(hVk w' (h'.2.2.2 _ _ ((h.block V hVlt).trans hv) (by intro hh;cases hh;omega) (fun c fz hh=>by cases hh))).1,(hVk w' (h'.2.2.2 _ _ ((h.block V hVlt).trans hv) (by intro hh;cases hh;omega) (fun c fz hh=>by cases hh))).2.1,(hVk w' (h'.2.2.2 _ _ ((h.block V hVlt).trans hv) (by intro hh;cases hh;omega) (fun c fz hh=>by cases hh))).2.2,(h'.2.2.1.cell l3).trans (kept wr' h).2.2.2.1,(h'.2.2.1.cell (by show b' < _;omega)).trans (kept wr' h).2.2.2.2.1,(h'.2.2.1.cell (by show b' < _;omega)).trans (kept wr' h).2.2.2.2.2.1,(h'.2.2.1.cell (by show b' < _;omega)).trans (kept wr' h).2.2.2.2.2.2⟩
          · rw [qio,qjh,Lib.byteCells_length,List.length_append]
            have:=fl k
            omega
          · have:=h'.2.1
            rw [qio,qn7,qq6] at this
            exact this
        obtain ⟨Ph,hPh,hPx,hPy⟩:∃ Ph:Nat→Nat→Nat→Nat→Nat→Nat→Str→Prop,(∀ a1 a1' a2 a2' a3 a3' s,Ph a1 a1' a2 a2' a3 a3' s→∀ wr',Below Wv.heap.size Wv wr'→Calls prog 40 #[.agg #[.complex .f32 a1 a1',.complex .f32 a2 a2',.complex .f32 a3 a3']] wr' fun e w'=>e = .returned (.string (bstr s))∧Below Wv.heap.size Wv w'∧w'.cell? ⟨V,0,none⟩ = some (.complex .f32 (P1 k) (P1' k))∧w'.cell? ⟨V,1,none⟩ = some (.complex .f32 (P2 k) (P2' k))∧w'.cell? ⟨V,2,none⟩ = some (.complex .f32 (P3 k) (P3' k))∧w'.cell? ⟨w.heap.size,1,none⟩ = some (.slice (some ⟨b',o',none⟩) n1 cap1)∧w'.cell? ⟨b',o' + k * 3,none⟩ = some (.complex .f32 (Q1 k) (Q1' k))∧w'.cell? ⟨b',o' + k * 3 + 1,none⟩ = some (.complex .f32 (Q2 k) (Q2' k))∧w'.cell? ⟨b',o' + k * 3 + 2,none⟩ = some (.complex .f32 (Q3 k) (Q3' k)))∧Ph (P1 k) (P1' k) (P2 k) (P2' k) (P3 k) (P3' k) (x k)∧Ph (Q1 k) (Q1' k) (Q2 k) (Q2' k) (Q3 k) (Q3' k) (y k) :=
          ⟨fun a1 a1' a2 a2' a3 a3' s=>∀ wr',Below Wv.heap.size Wv wr'→Calls prog 40 #[.agg #[.complex .f32 a1 a1',.complex .f32 a2 a2',.complex .f32 a3 a3']] wr' fun e w'=>e = .returned (.string (bstr s))∧Below Wv.heap.size Wv w'∧w'.cell? ⟨V,0,none⟩ = some (.complex .f32 (P1 k) (P1' k))∧w'.cell? ⟨V,1,none⟩ = some (.complex .f32 (P2 k) (P2' k))∧w'.cell? ⟨V,2,none⟩ = some (.complex .f32 (P3 k) (P3' k))∧w'.cell? ⟨w.heap.size,1,none⟩ = some (.slice (some ⟨b',o',none⟩) n1 cap1)∧w'.cell? ⟨b',o' + k * 3,none⟩ = some (.complex .f32 (Q1 k) (Q1' k))∧w'.cell? ⟨b',o' + k * 3 + 1,none⟩ = some (.complex .f32 (Q2 k) (Q2' k))∧w'.cell? ⟨b',o' + k * 3 + 2,none⟩ = some (.complex .f32 (Q3 k) (Q3' k)),fun _ _ _ _ _ _ _ h=>h,hx',hy'⟩
        clear hB bel bv hB' bel' kept hx hy hVk hv hx' hy'
        go_wp2
        go_region_held3 (fun w'=>w'.cell? ⟨V,0,none⟩ = some (.complex .f32 (P1 k) (P1' k))∧w'.cell? ⟨V,1,none⟩ = some (.complex .f32 (P2 k) (P2' k))∧w'.cell? ⟨V,2,none⟩ = some (.complex .f32 (P3 k) (P3' k))∧w'.cell? ⟨w.heap.size,1,none⟩ = some (.slice (some ⟨b',o',none⟩) n1 cap1)∧w'.cell? ⟨b',o' + k * 3,none⟩ = some (.complex .f32 (Q1 k) (Q1' k))∧w'.cell? ⟨b',o' + k * 3 + 1,none⟩ = some (.complex .f32 (Q2 k) (Q2' k))∧w'.cell? ⟨b',o' + k * 3 + 2,none⟩ = some (.complex .f32 (Q3 k) (Q3' k)))
          (first | exact ⟨q0,q1,q2,q3,q4,q5,q6⟩ | exact ⟨v0,v1,v2,f1,d1,d2,d3⟩)
          (first
            | (go_at_call 40;refine (hPh _ _ _ _ _ _ _ (by assumption) _ (by first | assumption | exact (Below.refl _ _).drew | exact Below.refl _ _)).mono ?_;rintro e w' ⟨rfl,q,q0,q1,q2,q3,q4,q5,q6⟩)
            | (go_at_call 39;refine (ws' _ (by first | assumption | exact (Below.refl _ _).drew | exact Below.refl _ _)).mono ?_;rintro e w' ⟨rfl,hB6,b6,q0,q1,q2,q3,q4,q5,q6⟩))
        all_goals (
          go_wp2
          go_roundw
          case rel=>exact ⟨k + 1,by omega,by go_num,hB6,b6⟩
          case measure=>simp [intOf];omega)
      · have hke:k = n1:=by omega
        subst hke
        go_wp2_with (go_at_call 42;refine (qsv _ _ _ _ hB bel.size).mono ?_)
        first | rintro e w3 ⟨rfl,b3⟩ | rintro e w3 rfl b3
        go_wp2
        go_ret2
        exact ⟨rfl,bel2.trans ((bel.trans b3).mono (Nat.le_of_lt l3))⟩
end Go.Proofs.YtiegopnofbgoaaaGreat.AWN

namespace Go.Proofs.YtiegopnofbgoaaaGreat.AWN
open Go Go.Shelf Go.RowKit Go.Proofs.Tryz
set_option maxHeartbeats 4000000 in
set_option maxRecDepth 100000 in
theorem flow_no (w:World) (a0 a1:Option Addr) (n cap0 n1 cap1:Nat) (R:Int) (rests:Bool) (hbad:¬ (1 ≤ n∧n ≤ 16∧n1 = n∧0 ≤ R∧R ≤ 50)) (hnm:n ≤ maxLen∧n1 ≤ maxLen)
    (hin:∀ wr (k lo hi:Int),Calls prog 33 #[.int .i64 k,.int .i64 lo,.int .i64 hi] wr fun e w'=>e = .returned (.bool (decide (lo ≤ k∧k ≤ hi)))∧Below wr.heap.size wr w') :
    Calls prog 19 #[.agg #[.slice a0 n cap0,.slice a1 n1 cap1,.int .i64 R,.bool rests]] w fun e w'=>e = .returned (.tuple #[.string (bstr []),.bool false])∧Below w.heap.size w w':=by
  obtain ⟨W0,hW0⟩:∃ W0,W0 = w.alloc (.cells #[.slice a0 n cap0,.slice a1 n1 cap1,.int .i64 R,.bool rests] 57):=⟨_,rfl⟩
  have z0:W0.heap.size = w.heap.size + 1:=by rw [hW0];simp
  have bel0:Below w.heap.size w W0:=by rw [hW0];exact (Below.refl _ w).alloc (Nat.le_refl _) _
  have g0:W0.cell? ⟨w.heap.size,0,none⟩ = some (.slice a0 n cap0):=by rw [hW0,Lib.cell_of_heap (heap_alloc_new w _)];rfl
  have g1:W0.cell? ⟨w.heap.size,1,none⟩ = some (.slice a1 n1 cap1):=by rw [hW0,Lib.cell_of_heap (heap_alloc_new w _)];rfl
  have g2:W0.cell? ⟨w.heap.size,2,none⟩ = some (.int .i64 R):=by rw [hW0,Lib.cell_of_heap (heap_alloc_new w _)];rfl
  unfold maxLen at hnm
  obtain ⟨hm,hm1⟩:=hnm
  go_enter Tryz.func19,Tryz.ntmps19
  go_wp2_with (go_at_call 33;refine (hin _ _ _ _).mono ?_)
  rw [← hW0]
  first | rintro e w1 ⟨rfl,b1⟩ | rintro e w1 rfl b1
  have l1:w.heap.size < W0.heap.size:=by omega
  have g0:=(b1.cell (p:=⟨w.heap.size,0,none⟩) l1).trans g0
  have g1:=(b1.cell (p:=⟨w.heap.size,1,none⟩) l1).trans g1
  have g2:=(b1.cell (p:=⟨w.heap.size,2,none⟩) l1).trans g2
  have bel1:Below w.heap.size w w1:=bel0.trans (b1.mono (by omega))
  by_cases h1:1 ≤ n∧n ≤ 16
  · have hd1:decide ((1:Int) ≤ (n:Int)∧(n:Int) ≤ 16) = true:=decide_eq_true ⟨by omega,by omega⟩
    rw [hd1]
    by_cases h2:n1 = n
    · subst h2
      have hd2:decide ((0:Int) ≤ R∧R ≤ 50) = false:=decide_eq_false fun h=>hbad ⟨h1.1,h1.2,rfl,h.1,h.2⟩
      go_wp2_with (go_at_call 33;refine (hin _ _ _ _).mono ?_)
      first | rintro e w2 ⟨rfl,b2⟩ | rintro e w2 rfl b2
      rw [hd2]
      have bel2:=bel1.trans (b2.mono bel1.size)
      go_wp2
      go_ret2
      exact ⟨rfl,bel2⟩
    · have h2':¬ (n1:Int) = (n:Int):=by omega
      go_wp2
      go_ret2
      exact ⟨rfl,bel1⟩
  · have hd1:decide ((1:Int) ≤ (n:Int)∧(n:Int) ≤ 16) = false:=decide_eq_false fun h=>h1 ⟨by omega,by omega⟩
    rw [hd1]
    go_wp2
    go_ret2
    exact ⟨rfl,bel1⟩
end Go.Proofs.YtiegopnofbgoaaaGreat.AWN

namespace Go.Proofs.YtiegopnofbgoaaaGreat.AWN
open Go Go.Shelf Go.RowKit Go.Proofs.Tryz
def phs {α:Type} (ph:α→Option Str):List α→Option (List Str)
  | []=>some []
  | a :: r=>(ph a).bind fun s=>(phs ph r).bind fun t=>grd (s.length ≤ 1000) (some (s :: t))
theorem quj {α:Type} {ph:α→Option Str}:∀ {l:List α} {r:List Str},phs ph l = some r→(∀ k (h:k < l.length),ph l[k] = some (r.getD k []))∧∀ k,(r.getD k []).length ≤ 1000
  | [],r,h=>by
    cases h
    exact ⟨fun k h=>absurd h (Nat.not_lt_zero _),fun k=>by simp⟩
  | a :: l,r,h=>by
    unfold phs at h
    obtain ⟨s,hs,h⟩:=Option.bind_eq_some_iff.1 h
    obtain ⟨t,ht,h⟩:=Option.bind_eq_some_iff.1 h
    unfold grd at h
    split at h
    · cases h
      obtain ⟨i1,i2⟩:=quj ht
      refine ⟨fun k hk=>?_,fun k=>?_⟩
      · rcases k with _ | k
        · exact hs
        · exact i1 k (by simpa using hk)
      · rcases k with _ | k
        · assumption
        · exact i2 k
    · cases h
def CxAt (W:World) (a:Option Addr) (x1 y1 x2 y2 x3 y3 k:Nat) (P:Nat × Nat × Nat × Nat × Nat × Nat):Prop :=
  (∃ b o,a = some ⟨b,o,none⟩∧b < W.heap.size∧W.cell? ⟨b,o + k * 3,none⟩ = some (.complex .f32 P.1 P.2.1)∧W.cell? ⟨b,o + k * 3 + 1,none⟩ = some (.complex .f32 P.2.2.1 P.2.2.2.1)∧W.cell? ⟨b,o + k * 3 + 2,none⟩ = some (.complex .f32 P.2.2.2.2.1 P.2.2.2.2.2)) ∧
  ∀ W' hb H ok',Rel W' hb H ok' (.agg [.d (.cx .f32 x1 y1),.d (.cx .f32 x2 y2),.d (.cx .f32 x3 y3)]) (.agg #[.complex .f32 P.1 P.2.1,.complex .f32 P.2.2.1 P.2.2.2.1,.complex .f32 P.2.2.2.2.1 P.2.2.2.2.2])
section
variable {α:Type} {eP:α→List D} {p1 q1 p2 q2 p3 q3:α→Nat} (hf:∀ a,eP a = [.cx .f32 (p1 a) (q1 a),.cx .f32 (p2 a) (q2 a),.cx .f32 (p3 a) (q3 a)])
include hf
theorem qwv {W:World} {ok:Nat→Prop} (hok:∀ b,ok b→b < W.heap.size) {l:List α} {v:Value} (h:RelD W ok (.sl false (l.map eP)) v) :
    ∃ a cap,v = .slice a l.length cap∧l.length ≤ maxLen∧∃ P:Nat→Nat × Nat × Nat × Nat × Nat × Nat,∀ k,(hk:k < l.length)→CxAt W a (p1 l[k]) (q1 l[k]) (p2 l[k]) (q2 l[k]) (p3 l[k]) (q3 l[k]) k (P k):=by
  generalize hes:l.map eP = es at h
  cases h with
  | slnil =>
    have:l = []:=by simpa using hes
    subst this
    exact ⟨none,0,rfl,Nat.zero_le _,fun _=>(0,0,0,0,0,0),fun k hk=>absurd hk (Nat.not_lt_zero _)⟩
  | sle =>
    have:l = []:=by simpa using hes
    subst this
    exact ⟨_,0,rfl,Nat.zero_le _,fun _=>(0,0,0,0,0,0),fun k hk=>absurd hk (Nat.not_lt_zero _)⟩
  | sl sz vs k1 k2 k3 k4 k5 k6 k7 k8 =>
    rename_i b o len cap
    subst hes
    rw [List.length_map] at k2
    subst k2
    refine ⟨_,cap,rfl,k5,?_⟩
    suffices h:∀ k,∃ P:Nat × Nat × Nat × Nat × Nat × Nat,∀ (hk:k < l.length),CxAt W (some ⟨b,o,none⟩) (p1 l[k]) (q1 l[k]) (p2 l[k]) (q2 l[k]) (p3 l[k]) (q3 l[k]) k P from
      ⟨fun k=>Classical.choose (h k),fun k hk=>Classical.choose_spec (h k) hk⟩
    intro k
    by_cases hk:k < l.length
    · have e:(l.map eP).getD k [] = [.cx .f32 (p1 l[k]) (q1 l[k]),.cx .f32 (p2 l[k]) (q2 l[k]),.cx .f32 (p3 l[k]) (q3 l[k])]:=by
        rw [List.getD_eq_getElem?_getD,List.getElem?_map,List.getElem?_eq_getElem hk]
        exact hf _
      have h6:=k6 k hk
      rw [e] at h6
      have h6:3 = sz:=h6
      subst h6
      have c0:=k7 k 0 hk (by omega)
      have c1:=k7 k 1 hk (by omega)
      have c2:=k7 k 2 hk (by omega)
      have r0:=k8 k 0 hk (by omega)
      have r1:=k8 k 1 hk (by omega)
      have r2:=k8 k 2 hk (by omega)
      rw [e] at r0 r1 r2
      have r0:RelD W ok (.cx .f32 (p1 l[k]) (q1 l[k])) (vs k 0):=r0
      have r1:RelD W ok (.cx .f32 (p2 l[k]) (q2 l[k])) (vs k 1):=r1
      have r2:RelD W ok (.cx .f32 (p3 l[k]) (q3 l[k])) (vs k 2):=r2
      generalize vs k 0 = u0 at c0 r0
      generalize vs k 1 = u1 at c1 r1
      generalize vs k 2 = u2 at c2 r2
      cases r0 with
      | cx a1 a2 a3 a4 =>
      cases r1 with
      | cx b1 b2 b3 b4 =>
      cases r2 with
      | cx d1 d2 d3 d4 =>
      refine ⟨(_,_,_,_,_,_),fun _=>⟨⟨b,o,rfl,hok _ (k1 (by
        intro hnil
        have:l = []:=by simpa using hnil
        rw [this] at hk;exact absurd hk (Nat.not_lt_zero _))),by simpa using c0,by simpa [Nat.add_assoc] using c1,by simpa [Nat.add_assoc] using c2⟩,fun W' hb H ok'=>.agg rfl fun i hi=>?_⟩⟩
      rcases i with _ | _ | _ | i
      · exact qp3 a1 a2 a3 a4
      · exact qp3 b1 b2 b3 b4
      · exact qp3 d1 d2 d3 d4
      · simp at hi;omega
    · exact ⟨(0,0,0,0,0,0),fun h=>absurd h hk⟩
variable {byt:Int→Int→Option Str} {ph:α→Option Str}
def qx9 (byt:Int→Int→Option Str) (ph:α→Option Str) (V C:List α) (R:Int) (rests:Bool):Option (Str × Bool) :=
  if 1 ≤ V.length∧V.length ≤ 16∧C.length = V.length∧0 ≤ R∧R ≤ 50 then
    (byt R 1).bind fun s1=>(byt (if rests then 1 else 0) 1).bind fun s2=>grd (s1.length + s2.length ≤ 1000) ((phs ph V).bind fun xs=>(phs ph C).bind fun ys =>
      some (qmv (fun k=>xs.getD k []) (fun k=>ys.getD k []) (s1 ++ s2) V.length,true))
  else some ([],false)
variable (hin:∀ k lo hi,qax prog false 33 [.d (.int .i64 k),.d (.int .i64 lo),.d (.int .i64 hi)] [] (fun v o n=>v = .d (.bool (decide (lo ≤ k∧k ≤ hi)))∧o = []∧n = []))
variable (hbyt:∀ a b r,byt a b = some r→qax prog false 21 [.d (.int .i64 a),.d (.int .i64 b)] [] (fun v o n=>v = .d (.str (bstr r))∧o = []∧n = []))
variable (hph:∀ a r,ph a = some r→qax prog false 40 [.agg [.d (.cx .f32 (p1 a) (q1 a)),.d (.cx .f32 (p2 a) (q2 a)),.d (.cx .f32 (p3 a) (q3 a))]] [] (fun v o n=>v = .d (.str (bstr r))∧o = []∧n = []))
omit hf in
omit hf in
theorem relL_3 {W:World} {hb:Handle} {H:Nat→AObj} {ok:Nat→Prop} {x y z:V} {v u t:Value} (h:Rel W hb H ok x v) (h':Rel W hb H ok y u) (h'':Rel W hb H ok z t):RelL W hb H ok [x,y,z] #[v,u,t]:=⟨rfl,fun i hi=>by
  rcases i with _ | _ | _ | i
  · exact h
  · exact h'
  · exact h''
  · simp at hi;omega⟩
include hin hbyt hph
theorem qth {fr:Bool} {V C:List α} {R:Int} {rests:Bool} {r:Str × Bool} (h:qx9 byt ph V C R rests = some r) :
    qax prog fr 19 [.agg [.d (.sl false (V.map eP)),.d (.sl false (C.map eP)),.d (.int .i64 R),.d (.bool rests)]] [] (fun v o n=>v = .tup [.d (.str (bstr r.1)),.d (.bool r.2)]∧o = []∧n = []):=by
  refine qpv fun W hb H ok vals hl hok hr=>?_
  obtain ⟨v,rfl,h1⟩:∃ v,vals = #[v]∧Rel W hb H ok (.agg [.d (.sl false (V.map eP)),.d (.sl false (C.map eP)),.d (.int .i64 R),.d (.bool rests)]) v:=by
    obtain ⟨g1,g2⟩:=hr
    have hs:vals.size = 1:=by simp at g1;omega
    refine ⟨vals[0],?_,?_⟩
    · apply Array.ext
      · simp;omega
      · intro i hi hj
        simp at hj
        have:i = 0:=by omega
        subst this;rfl
    · have:=g2 0 (by omega)
      simpa [Array.getD_eq_getD_getElem?,hs] using this
  obtain ⟨u0,u1,rfl,m0,m1⟩:∃ u0 u1,v = .agg #[u0,u1,.int .i64 R,.bool rests]∧RelD W ok (.sl false (V.map eP)) u0∧RelD W ok (.sl false (C.map eP)) u1:=by
    cases h1 with
    | agg g1 g2 =>
      rename_i a
      have hs:a.size = 4:=by simp at g1;omega
      have r0:=g2 0 (by omega)
      have r1:=g2 1 (by omega)
      have r2:=qjo (g2 2 (by omega))
      have r3:=qk0 (g2 3 (by omega))
      have s0:RelD W ok (.sl false (V.map eP)) (a.getD 0 undef):=by
        cases r0 with | d h=>exact h
      have s1:RelD W ok (.sl false (C.map eP)) (a.getD 1 undef):=by
        cases r1 with | d h=>exact h
      refine ⟨a.getD 0 undef,a.getD 1 undef,?_,s0,s1⟩
      congr 1
      apply Array.ext
      · simp;omega
      · intro i hi hj
        simp at hj
        have:i = 0 ∨ i = 1 ∨ i = 2 ∨ i = 3:=by omega
        rcases this with rfl | rfl | rfl | rfl
        · simp [Array.getD_eq_getD_getElem?,Array.getElem?_eq_getElem hi]
        · simp [Array.getD_eq_getD_getElem?,Array.getElem?_eq_getElem hi]
        · rw [Array.getD_eq_getD_getElem?,Array.getElem?_eq_getElem hi] at r2;exact r2
        · rw [Array.getD_eq_getD_getElem?,Array.getElem?_eq_getElem hi] at r3;exact r3
  obtain ⟨a0,cap0,rfl,n0,P,hP⟩:=qwv hf hok m0
  obtain ⟨a1,cap1,rfl,n1,Q,hQ⟩:=qwv hf hok m1
  have hin':∀ wr (k lo hi:Int),Calls prog 33 #[.int .i64 k,.int .i64 lo,.int .i64 hi] wr fun e w'=>e = .returned (.bool (decide (lo ≤ k∧k ≤ hi)))∧Below wr.heap.size wr w':=fun wr k lo hi =>
    qgk (qne wr) (hin k lo hi) (relL_3 (qg8 _ _) (qg8 _ _) (qg8 _ _)) fun _ _ _ _ _ h=>qk0 h
  have fin:∀ (e:Ending) (w':World),(e = .returned (.tuple #[.string (bstr r.1),.bool r.2])∧Below W.heap.size W w')→∃ v,e = .returned v∧Below W.heap.size W w'∧∀ hb H ok,Rel w' hb H ok (.tup [.d (.str (bstr r.1)),.d (.bool r.2)]) v:=by
    rintro e w' ⟨rfl,bel⟩
    refine ⟨_,rfl,bel,fun hb H ok=>.tup rfl fun i hi=>?_⟩
    rcases i with _ | _ | i
    · exact qto _
    · exact qi2 _
    · simp at hi;omega
  unfold qx9 at h
  by_cases hc:1 ≤ V.length∧V.length ≤ 16∧C.length = V.length∧0 ≤ R∧R ≤ 50
  · rw [if_pos hc] at h
    obtain ⟨s1,e1,h⟩:=Option.bind_eq_some_iff.1 h
    obtain ⟨s2,e2,h⟩:=Option.bind_eq_some_iff.1 h
    unfold grd at h
    split at h
    · rename_i hs
      obtain ⟨xs,ex,h⟩:=Option.bind_eq_some_iff.1 h
      obtain ⟨ys,ey,h⟩:=Option.bind_eq_some_iff.1 h
      cases h
      obtain ⟨i1,i2⟩:=quj ex
      obtain ⟨j1,j2⟩:=quj ey
      refine (flow_walk W a0 a1 V.length cap0 C.length cap1 R rests (fun k=>(P k).1) (fun k=>(P k).2.2.1) (fun k=>(P k).2.2.2.2.1) (fun k=>(P k).2.1) (fun k=>(P k).2.2.2.1) (fun k=>(P k).2.2.2.2.2) (fun k=>(Q k).1) (fun k=>(Q k).2.2.1) (fun k=>(Q k).2.2.2.2.1) (fun k=>(Q k).2.1) (fun k=>(Q k).2.2.2.1) (fun k=>(Q k).2.2.2.2.2) (fun k=>xs.getD k []) (fun k=>ys.getD k []) s1 s2
        ⟨hc.1,hc.2.1⟩ hc.2.2.1 hc.2.2.2 hin'
        (fun wr=>qgk (qne wr) (hbyt _ _ _ e1) (qwz (qg8 _ _) (qg8 _ _)) fun _ _ _ _ _ h=>qlh h)
        (fun wr=>qgk (qne wr) (hbyt _ _ _ e2) (qwz (qg8 _ _) (qg8 _ _)) fun _ _ _ _ _ h=>qlh h)
        (fun k hk wr=>qgk (qne wr) (hph _ _ (i1 k hk)) (qvm ((hP k hk).2 _ _ _ _)) fun _ _ _ _ _ h=>qlh h)
        (fun k hk wr=>qgk (qne wr) (hph _ _ (j1 k (by omega))) (qvm ((hQ k (by omega)).2 _ _ _ _)) fun _ _ _ _ _ h=>qlh h)
        (fun k hk=>(hP k hk).1) (fun k hk=>(hQ k (by omega)).1) ⟨hs,fun k=>⟨i2 k,j2 k⟩⟩).mono fun e w' h=>fin e w' h
    · cases h
  · rw [if_neg hc] at h
    cases h
    exact (flow_no W a0 a1 V.length cap0 C.length cap1 R rests hc ⟨n0,n1⟩ hin').mono fun e w' h=>fin e w' h
end
end Go.Proofs.YtiegopnofbgoaaaGreat.AWN

namespace Go.Proofs.YtiegopnofbgoaaaGreat.AWN
open Go
section
variable {α:Type}
end
end Go.Proofs.YtiegopnofbgoaaaGreat.AWN

namespace Go.Proofs.YtiegopnofbgoaaaGreat.AWN
open Go
/-! ### Elements of arrays -/
end Go.Proofs.YtiegopnofbgoaaaGreat.AWN

namespace Go.Proofs.YtiegopnofbgoaaaGreat.AWN
open Go
def bndP {α:Type} (o:Option α) (F:α→Prop):Prop:=∃ x,o = some x∧F x
theorem qbf {α:Type} {o:Option α} {F:α→Prop} {C:Prop} (h:bndP o F) (k:∀ x,o = some x→F x→C):C:=let ⟨x,h1,h2⟩:=h;k x h1 h2
def grdP (p:Prop) (x:Prop):Prop:=p∧x
theorem qhf {p x C:Prop} (h:grdP p x) (k:p→x→C):C:=k h.1 h.2
theorem qnb {p:Prop} [Decidable p] {x y:Prop} (h:if p then x else y) (hc:decide p = true):x:=by
  have hp:p:=of_decide_eq_true hc
  rwa [if_pos hp] at h
theorem qna {p:Prop} [Decidable p] {x y:Prop} (h:if p then x else y) (hc:decide p = false):y:=by
  have hp:¬ p:=of_decide_eq_false hc
  rwa [if_neg hp] at h
theorem qjf {b:Bool} {x y:Prop} (h:if b = true then x else y) (hc:b = true):x:=by rwa [if_pos hc] at h
theorem qje {b:Bool} {x y:Prop} (h:if b = true then x else y) (hc:b = false):y:=by
  subst hc
  simpa using h
def nrwP (s k:FloatKind) (x:Nat) (F:Nat→Prop):Prop:=match qmu s k x with
  | some y=>F y
  | none=>∀ r,r < 2 ^ k.format.width→F (canon k r)
section
variable {P:Program} {τ:Tab} {σ:St} {ops:Array Oper} {rest:List Oper} {o:Oper} {Q:Exit→St→Prop}
theorem awl_conv (hτ:qfl P τ) {s k:FloatKind} {x:Nat} {F:Nat→Prop} (hF:nrwP s k x F) (hw:qcq ops σ o = some true) (hd:qhy σ o.dst = true)
    (h:qbp τ σ o.op = (match qmu s k x with
      | some r=>OR.val (.d (.fl k r))
      | none=>OR.pick (fun r=>r < 2 ^ k.format.width) (fun r=>.d (.fl k (canon k r)))))
    (hK:∀ y,F y→AWL P ops rest (σ.putO o.dst (.d (.fl k y))) Q):AWL P ops (o :: rest) σ Q:=by
  unfold nrwP at hF
  cases hc:qmu s k x with
  | some y =>
    rw [hc] at hF h
    exact qa0 hτ hw hd h (hK y hF)
  | none =>
    rw [hc] at hF h
    exact awl_pick hτ hw hd h fun r hr=>hK _ (hF r hr)
end
end Go.Proofs.YtiegopnofbgoaaaGreat.AWN

namespace Go.Proofs.YtiegopnofbgoaaaGreat.AWN
open Go Ieee
theorem qvr (a b:Nat):a <<< b = a * 2 ^ b:=Nat.shiftLeft_eq a b
theorem cut_zero (neg:Bool) (n:Nat):Toward.even.cut neg n 0 = n:=by
  simp [Toward.cut,Nat.mod_one]
theorem qpj (neg:Bool) (n drop:Nat):Toward.even.cut neg n drop = n / 2 ^ drop + (decide (2 ^ drop < 2 * (n % 2 ^ drop)) || (2 ^ drop == 2 * (n % 2 ^ drop) && n / 2 ^ drop % 2 == 1)).toNat:=by
  by_cases h:drop ≤ n.log2 + 2
  · unfold Toward.cut
    rw [Nat.min_eq_left h]
    simp [qvr]
  · have hn:n < 2 ^ (n.log2 + 1):=Nat.lt_log2_self
    have h1:2 ^ (n.log2 + 2) ≤ 2 ^ drop:=Nat.pow_le_pow_right (by decide) (by omega)
    have h2:2 ^ (n.log2 + 2) = 2 * 2 ^ (n.log2 + 1):=by rw [Nat.pow_succ];omega
    have h3:n < 2 ^ (n.log2 + 2):=by omega
    have d1:n / 2 ^ drop = 0:=Nat.div_eq_of_lt (by omega)
    have d2:n % 2 ^ drop = n:=Nat.mod_eq_of_lt (by omega)
    have d3:n / 2 ^ (n.log2 + 2) = 0:=Nat.div_eq_of_lt h3
    have d4:n % 2 ^ (n.log2 + 2) = n:=Nat.mod_eq_of_lt h3
    unfold Toward.cut
    rw [Nat.min_eq_right (by omega),qvr,Nat.one_mul]
    simp only [d1,d2,d3,d4]
    have e1:decide (2 ^ (n.log2 + 2) < 2 * n) = false:=by simp;omega
    have e2:decide (2 ^ drop < 2 * n) = false:=by simp;omega
    rw [e1,e2]
    simp
theorem nearest_zero (f:Format) (neg:Bool) (p:Int):f.nearest neg 0 p = f.word neg 0:=by simp [Format.nearest]
def qj0 (f:Format) (m:Nat) (p:Int):Int:=max (p + m.log2 - f.fractionBits) f.leastPlace
def qn2 (f:Format) (m:Nat) (p:Int):Nat:=Toward.even.cut false (m <<< (p - qj0 f m p).toNat) (qj0 f m p - p).toNat
theorem nearest_eq (f:Format) (neg:Bool) {m:Nat} (p:Int) (hm:m ≠ 0):f.nearest neg m p = f.word neg (min ((qj0 f m p - f.leastPlace).toNat * f.binade + qn2 f m p) f.infRung):=by
  unfold Format.nearest
  rw [if_neg hm]
  dsimp only
  rw [show Toward.even.cut neg = Toward.even.cut false by funext a b;rw [qpj,qpj]]
  rfl
theorem cut_le (n drop M:Nat) (h:n ≤ M * 2 ^ drop):Toward.even.cut false n drop ≤ M:=by
  rw [qpj]
  have hp:=Nat.two_pow_pos drop
  have hdm:=Nat.div_add_mod n (2 ^ drop)
  have hml:=Nat.mod_lt n hp
  by_cases hr:n % 2 ^ drop = 0
  · have:n / 2 ^ drop ≤ M:=Nat.div_le_of_le_mul (by rw [Nat.mul_comm];exact h)
    have e1:decide (2 ^ drop < 2 * (n % 2 ^ drop)) = false:=by rw [hr];simp
    have e2:(2 ^ drop == 2 * (n % 2 ^ drop)) = false:=by rw [hr];simp
    rw [e1,e2]
    simpa using this
  · have:n / 2 ^ drop < M:=by
      rw [Nat.div_lt_iff_lt_mul hp]
      rcases Nat.lt_or_eq_of_le h with h' | h'
      · exact h'
      · exfalso;apply hr;rw [h'];exact Nat.mul_mod_left ..
    have hb:∀ b:Bool,b.toNat ≤ 1:=by intro b;cases b <;> decide
    have:=hb (decide (2 ^ drop < 2 * (n % 2 ^ drop)) || (2 ^ drop == 2 * (n % 2 ^ drop) && n / 2 ^ drop % 2 == 1))
    omega
theorem cut_ge (n drop M:Nat) (h:M * 2 ^ drop ≤ n):M ≤ Toward.even.cut false n drop:=by
  rw [qpj]
  have:M ≤ n / 2 ^ drop:=(Nat.le_div_iff_mul_le (Nat.two_pow_pos drop)).2 h
  omega
theorem kept_bounds (f:Format) {m:Nat} {p:Int} (hm:m ≠ 0):qn2 f m p ≤ 2 * f.binade∧(f.leastPlace ≤ p + m.log2 - f.fractionBits→f.binade ≤ qn2 f m p):=by
  unfold qn2
  have h1:=Nat.log2_self_le hm
  have h2:=@Nat.lt_log2_self m
  generalize hL:m.log2 = L at *
  have hlast:qj0 f m p = max (p + L - f.fractionBits) f.leastPlace:=by rw [qj0,hL]
  rw [hlast]
  generalize hlst:max (p + L - f.fractionBits:Int) f.leastPlace = last at *
  rw [qvr]
  have hb:2 * f.binade = 2 ^ (f.fractionBits + 1):=by rw [Format.binade,Nat.pow_succ];omega
  constructor
  · apply cut_le
    rw [hb]
    rw [← Nat.pow_add]
    have:m * 2 ^ (p - last).toNat ≤ 2 ^ (L + 1) * 2 ^ (p - last).toNat:=Nat.mul_le_mul_right _ (Nat.le_of_lt h2)
    refine Nat.le_trans this ?_
    rw [← Nat.pow_add]
    exact Nat.pow_le_pow_right (by decide) (by omega)
  · intro hle
    apply cut_ge
    rw [Format.binade,← Nat.pow_add]
    have:2 ^ L * 2 ^ (p - last).toNat ≤ m * 2 ^ (p - last).toNat:=Nat.mul_le_mul_right _ h1
    refine Nat.le_trans ?_ this
    rw [← Nat.pow_add]
    exact Nat.pow_le_pow_right (by decide) (by omega)
theorem kept_exact (f:Format) {m:Nat} {p:Int} (hm:m ≠ 0) (hs:m < 2 ^ (f.fractionBits + 1)) (hp:f.leastPlace ≤ p):qj0 f m p ≤ p∧qn2 f m p = m * 2 ^ (p - qj0 f m p).toNat:=by
  have hL:m.log2 < f.fractionBits + 1:=(Nat.log2_lt hm).2 hs
  have h1:qj0 f m p ≤ p:=by unfold qj0;omega
  refine ⟨h1,?_⟩
  unfold qn2
  rw [show (qj0 f m p - p).toNat = 0 by omega,cut_zero,qvr]
def qkx (f:Format):Nat:=2 ^ f.exponentBits - 1
theorem read_nearest (f:Format) (hf:f.infRung < f.signWeight) (hr:0 < qkx f) (neg:Bool) {m:Nat} {p:Int} (hm:m ≠ 0) (hs:m < 2 ^ (f.fractionBits + 1)) (hp:f.leastPlace ≤ p) (hmax:(p + m.log2 - f.fractionBits - f.leastPlace + 1:Int) < qkx f) :
    f.read (f.nearest neg m p) = .number neg (m * 2 ^ (p - qj0 f m p).toNat) (qj0 f m p):=by
  obtain ⟨hle,hk⟩:=kept_exact f hm hs hp
  obtain ⟨b1,b2⟩:=kept_bounds f (p:=p) hm
  rw [nearest_eq f neg p hm]
  have hbp:0 < f.binade:=Nat.two_pow_pos _
  have hL:m.log2 < f.fractionBits + 1:=(Nat.log2_lt hm).2 hs
  have hkl:qn2 f m p < 2 * f.binade:=by
    rw [hk]
    have h2:=@Nat.lt_log2_self m
    have:m * 2 ^ (p - qj0 f m p).toNat < 2 ^ (m.log2 + 1) * 2 ^ (p - qj0 f m p).toNat:=Nat.mul_lt_mul_of_pos_right h2 (Nat.two_pow_pos _)
    rw [← Nat.pow_add] at this
    have h3:2 * f.binade = 2 ^ (f.fractionBits + 1):=by rw [Format.binade,Nat.pow_succ];omega
    rw [h3]
    exact Nat.lt_of_lt_of_le this (Nat.pow_le_pow_right (by decide) (by unfold qj0;omega))
  have hrung:(qj0 f m p - f.leastPlace).toNat * f.binade + qn2 f m p < f.infRung:=by
    have h0:(qj0 f m p - f.leastPlace).toNat + 2 ≤ qkx f ∨ qj0 f m p = f.leastPlace∧(qn2 f m p < f.binade ∨ 2 ≤ qkx f):=by
      unfold qj0
      rcases Int.le_total (p + m.log2 - f.fractionBits) f.leastPlace with h | h
      · right
        refine ⟨by omega,?_⟩
        by_cases he:p + m.log2 - f.fractionBits = f.leastPlace
        · right;omega
        · left
          rw [hk]
          have h2:=@Nat.lt_log2_self m
          have:m * 2 ^ (p - qj0 f m p).toNat < 2 ^ (m.log2 + 1) * 2 ^ (p - qj0 f m p).toNat:=Nat.mul_lt_mul_of_pos_right h2 (Nat.two_pow_pos _)
          rw [← Nat.pow_add] at this
          refine Nat.lt_of_lt_of_le this ?_
          rw [Format.binade]
          exact Nat.pow_le_pow_right (by decide) (by unfold qj0;omega)
      · left;omega
    have hi:f.infRung = qkx f * f.binade:=rfl
    rw [hi]
    rcases h0 with h0 | ⟨h0,h1 | h1⟩
    · have:=Nat.mul_le_mul_right f.binade h0
      rw [Nat.add_mul] at this
      omega
    · rw [h0]
      simp only [Int.sub_self,Int.toNat_zero,Nat.zero_mul,Nat.zero_add]
      have:1 ≤ qkx f:=hr
      have:=Nat.mul_le_mul_right f.binade this
      omega
    · rw [h0]
      simp only [Int.sub_self,Int.toNat_zero,Nat.zero_mul,Nat.zero_add]
      have:=Nat.mul_le_mul_right f.binade h1
      omega
  rw [Nat.min_eq_left (Nat.le_of_lt hrung),qlf _ _ _ (by omega)]
  rw [← hk]
  by_cases hb:qn2 f m p < f.binade
  · have hl:qj0 f m p = f.leastPlace:=by
      rcases Int.le_total f.leastPlace (p + m.log2 - f.fractionBits) with h | h
      · exact absurd (b2 h) (by omega)
      · unfold qj0;omega
    rw [hl]
    simp only [Int.sub_self,Int.toNat_zero,Nat.zero_mul,Nat.zero_add]
    rw [if_pos hb]
  · have hge:f.binade ≤ qn2 f m p:=by omega
    have e:(qj0 f m p - f.leastPlace).toNat * f.binade + qn2 f m p = (qn2 f m p - f.binade) + f.binade * ((qj0 f m p - f.leastPlace).toNat + 1):=by
      rw [Nat.mul_add,Nat.mul_comm];omega
    have hmod:((qj0 f m p - f.leastPlace).toNat * f.binade + qn2 f m p) % f.binade = qn2 f m p - f.binade:=by
      rw [e,Nat.add_mul_mod_self_left,Nat.mod_eq_of_lt (by omega)]
    have hdiv:((qj0 f m p - f.leastPlace).toNat * f.binade + qn2 f m p) / f.binade = (qj0 f m p - f.leastPlace).toNat + 1:=by
      rw [e,Nat.add_mul_div_left _ _ hbp,Nat.div_eq_of_lt (by omega)];omega
    have hn:¬ (qj0 f m p - f.leastPlace).toNat * f.binade + qn2 f m p < f.binade:=by omega
    rw [hmod,hdiv,if_neg hn,if_pos hrung]
    congr 1
    · omega
    · have:f.leastPlace ≤ qj0 f m p:=by unfold qj0;omega
      omega
end Go.Proofs.YtiegopnofbgoaaaGreat.AWN

namespace Go.Proofs.YtiegopnofbgoaaaGreat.AWN
open Go Ieee
structure qy5 (f:Format):Prop where
  rung:f.infRung < f.signWeight
  most:0 < qkx f
theorem fmtOk (k:FloatKind):qy5 k.format:=⟨k.format.infRung_lt,by cases k <;> decide⟩
structure Ex (f:Format) (m:Nat) (p:Int):Prop where
  size:m < 2 ^ (f.fractionBits + 1)
  least:f.leastPlace ≤ p
  most:(p + m.log2 - f.fractionBits - f.leastPlace + 1:Int) < qkx f
theorem read_ex {f:Format} (hf:qy5 f) (neg:Bool) {m:Nat} {p:Int} (h:Ex f m p):∃ (a:Nat) (P:Int),f.read (f.nearest neg m p) = .number neg (m * 2 ^ a) P∧(m ≠ 0→P = p - a∧m.log2 + a ≤ f.fractionBits):=by
  by_cases hm:m = 0
  · subst hm
    refine ⟨0,f.leastPlace,?_,fun h=>absurd rfl h⟩
    rw [nearest_zero,qlf _ _ _ (by have:=hf.rung;omega),if_pos (show 0 < f.binade from Nat.two_pow_pos _)]
  · have hL:m.log2 < f.fractionBits + 1:=(Nat.log2_lt hm).2 h.size
    have h1:qj0 f m p ≤ p:=by have:=h.least;unfold qj0;omega
    refine ⟨(p - qj0 f m p).toNat,qj0 f m p,read_nearest f hf.rung hf.most neg hm h.size h.least h.most,fun _=>⟨by omega,?_⟩⟩
    unfold qj0;omega
/-! ### Between 0 and 1 -/
end Go.Proofs.YtiegopnofbgoaaaGreat.AWN

namespace Go.Proofs.YtiegopnofbgoaaaGreat.AWN
open Go Ieee
end Go.Proofs.YtiegopnofbgoaaaGreat.AWN

namespace Go.Proofs.YtiegopnofbgoaaaGreat.AWN
open Go Ieee
theorem ex_read {f:Format} (h2:1 < qkx f) {w:Nat} {neg:Bool} {m:Nat} {p:Int} (h:f.read w = .number neg m p):Ex f m p:=by
  unfold Format.read at h
  simp only at h
  have hb:0 < f.binade:=Nat.two_pow_pos _
  have e2:2 ^ (f.fractionBits + 1) = 2 * f.binade:=by rw [Format.binade,Nat.pow_succ];omega
  split at h
  · rename_i hr
    injection h with h0 h1 h3
    subst h3;subst h1
    have hl:w % f.signWeight = 0 ∨ (w % f.signWeight).log2 < f.fractionBits:=by
      by_cases h0:w % f.signWeight = 0
      · exact .inl h0
      · exact .inr ((Nat.log2_lt h0).2 hr)
    refine ⟨by omega,Int.le_refl _,?_⟩
    rcases hl with hl | hl
    · rw [hl,show Nat.log2 0 = 0 from by decide];omega
    · omega
  · split at h
    · rename_i hr hi
      injection h with h0 h1 h3
      subst h3;subst h1
      have hm:=Nat.mod_lt (w % f.signWeight) hb
      have hd:w % f.signWeight / f.binade < qkx f:=(Nat.div_lt_iff_lt_mul hb).2 hi
      have hd0:1 ≤ w % f.signWeight / f.binade:=(Nat.le_div_iff_mul_le hb).2 (by omega)
      have hlo:(f.binade + w % f.signWeight % f.binade).log2 < f.fractionBits + 1:=(Nat.log2_lt (by omega)).2 (by omega)
      exact ⟨by omega,by omega,by omega⟩
    · split at h <;> cases h
theorem ex_wide {m:Nat} {p:Int} (h:Ex single m p):Ex double m p:=by
  obtain ⟨h1,h2,h3⟩:=h
  have e1:single.fractionBits = 23:=rfl
  have e2:double.fractionBits = 52:=rfl
  have e3:single.leastPlace = -149:=by decide
  have e4:double.leastPlace = -1074:=by decide
  have e5:qkx single = 255:=by decide
  have e6:qkx double = 2047:=by decide
  rw [e1,e3,e5] at h3
  rw [e3] at h2
  rw [e1] at h1
  exact ⟨by rw [e2];exact Nat.lt_of_lt_of_le h1 (by decide),by rw [e4];omega,by rw [e2,e4,e6];omega⟩
theorem sgl_ok:1 < qkx single:=by decide
theorem qoz (x:Nat):∃ r,qmu .f32 .f64 x = some r∧isnan .f64 r = isnan .f32 x∧(∀ neg m p,single.read x = .number neg m p→r = double.nearest neg m p):=by
  unfold qmu
  rw [show fkEq .f32 .f64 = false from rfl,cond_false]
  have hd:FloatKind.f32.decode x = single.read x:=rfl
  rw [hd]
  cases h:single.read x with
  | nan s t =>
    refine ⟨qnan .f64,rfl,?_,fun _ _ _ h=>nomatch h⟩
    unfold isnan
    rw [show FloatKind.f32.format.read x = single.read x from rfl,h];show _ = true;decide
  | infinity s =>
    refine ⟨_,rfl,?_,fun _ _ _ h=>nomatch h⟩
    unfold isnan
    rw [show FloatKind.f32.format.read x = single.read x from rfl,h]
    cases s <;> decide
  | number s m p =>
    have hx:=ex_wide (ex_read sgl_ok h)
    obtain ⟨a,P,hr,_⟩:=read_ex (fmtOk .f64) s hx
    have hr':FloatKind.f64.decode (FloatKind.f64.encode (.number s m p)) = .number s (m * 2 ^ a) P:=hr
    refine ⟨FloatKind.f64.encode (.number s m p),?_,?_,fun neg m' p' he=>?_⟩
    · simp only [hr'];rfl
    · unfold isnan
      rw [show FloatKind.f32.format.read x = single.read x from rfl,h]
      have:FloatKind.f64.format.read (FloatKind.f64.encode (.number s m p)) = .number s (m * 2 ^ a) P:=hr
      rw [this];rfl
    · injection he with e1 e2 e3;subst e1;subst e2;subst e3;rfl
end Go.Proofs.YtiegopnofbgoaaaGreat.AWN

namespace Go.Proofs.YtiegopnofbgoaaaGreat.AWN
open Go Ieee
def rung (f:Format) (m:Nat) (p:Int):Nat:=if m = 0 then 0 else min ((qj0 f m p - f.leastPlace).toNat * f.binade + qn2 f m p) f.infRung
def key (f:Format) (w:Nat):Int:=if w / f.signWeight % 2 = 1 then -((w % f.signWeight:Nat):Int) else ((w % f.signWeight:Nat):Int)
def Fin' (f:Format) (w:Nat):Prop:=∃ s m p,f.read w = .number s m p
structure FmtK (f:Format):Prop where
  rung:f.infRung < f.signWeight
  many:1 < qkx f
  low:f.leastPlace ≤ 0
end Go.Proofs.YtiegopnofbgoaaaGreat.AWN

namespace Go.Proofs.YtiegopnofbgoaaaGreat.AWN
open Go Ieee
structure W (f:Format) (w:Nat):Prop where
  lt:w < 2 * f.signWeight
  fin:Fin' f w
section
variable {f:Format} (hf:FmtK f)
include hf
end
end Go.Proofs.YtiegopnofbgoaaaGreat.AWN

namespace Go.Proofs.YtiegopnofbgoaaaGreat.AWN
open Go Ieee
section
variable {k:FloatKind} {x y:Nat} (hx:W k.format x) (hy:W k.format y)
include hx hy
end
section
variable {k:FloatKind} {x y lo hi:Nat} (hx:W k.format x) (hy:W k.format y) (hlo:W k.format lo) (hhi:W k.format hi)
include hx hy hlo hhi
end
end Go.Proofs.YtiegopnofbgoaaaGreat.AWN

namespace Go.Proofs.YtiegopnofbgoaaaGreat.AWN
open Go Ieee
section
variable {k:FloatKind}
theorem up (k:FloatKind):(0:Int) < ((2 ^ (-k.format.leastPlace).toNat:Nat):Int):=by have:=Nat.two_pow_pos (-k.format.leastPlace).toNat;omega
end
end Go.Proofs.YtiegopnofbgoaaaGreat.AWN

namespace Go.Proofs.YtiegopnofbgoaaaGreat.AWN
open Go Ieee
end Go.Proofs.YtiegopnofbgoaaaGreat.AWN

namespace Go.Proofs.YtiegopnofbgoaaaGreat.AWN
open Go Ieee
/-! ### Powers of two -/
def p2 (z:Int):Rat:=(2:Rat) ^ z
/-! ### A cut -/
end Go.Proofs.YtiegopnofbgoaaaGreat.AWN

namespace Go.Proofs.YtiegopnofbgoaaaGreat.AWN
open Go Ieee
def ulp:FloatKind→Rat
  | .f32=>1 / 16777216
  | .f64=>1 / 9007199254740992
def tiny:Rat:=1 / 1000000000000000000000000000000
def huge:Rat:=1000000000000000000000000000000
abbrev FW (k:FloatKind) (w:Nat):Prop:=W k.format w
end Go.Proofs.YtiegopnofbgoaaaGreat.AWN

namespace Go.Proofs.YtiegopnofbgoaaaGreat.AWN
open Go Ieee
section
variable {k:FloatKind} {x y:Nat} (hx:FW k x) (hy:FW k y) {M:Rat} (hM:M ≤ huge)
include hx hy hM
end
/-! ### Order -/
section
variable {k:FloatKind} {x y:Nat} (hx:FW k x) (hy:FW k y)
include hx hy
end
/-! ### Quotients -/
end Go.Proofs.YtiegopnofbgoaaaGreat.AWN

namespace Go.Proofs.YtiegopnofbgoaaaGreat.AWN
open Go Ieee
def er (k:FloatKind) (M:Rat):Rat:=M * ulp k + tiny
section
variable {k:FloatKind} {x y:Nat} {a b c d lo hi M:Rat}
end
/-! ### Sums with nought -/
/-! ### Roots -/
end Go.Proofs.YtiegopnofbgoaaaGreat.AWN

namespace Go.Proofs.YtiegopnofbgoaaaGreat.AWN
open Go Ieee
structure Cq where
  re:Rat
  im:Rat
instance : Add Cq:=⟨fun x y=>⟨x.re + y.re,x.im + y.im⟩⟩
instance : Sub Cq:=⟨fun x y=>⟨x.re - y.re,x.im - y.im⟩⟩
instance : Neg Cq:=⟨fun x=>⟨-x.re,-x.im⟩⟩
instance : Mul Cq:=⟨fun x y=>⟨x.re * y.re - x.im * y.im,x.re * y.im + x.im * y.re⟩⟩
def n2 (x:Cq):Rat:=x.re * x.re + x.im * x.im
end Go.Proofs.YtiegopnofbgoaaaGreat.AWN

set_option maxHeartbeats 2000000
namespace Go.Proofs.YtiegopnofbgoaaaGreat.AWN
open Go Go.Proofs.Tryz
abbrev cxv (c:Cx):V:=.d (.cx .f32 c.re c.im)
abbrev cd (c:Cx):D:=.cx .f32 c.re c.im
abbrev iv (n:Int):V:=.d (.int .i64 n)
abbrev bv (b:Bool):V:=.d (.bool b)
abbrev sv {α:Type} (f:α→List D) (l:List α):V:=.d (.sl false (l.map f))
theorem wk {σ:St} (ks:List Nat) {objs:List AObj} {l:List (Nat × V)} (hbase:qra ks σ.base = true:=by exact rfl) (hnd:ks.Nodup:=by simp) (hobjs:mapO (fun j=>exO (qdn ks) σ.heap true (σ.heap j)) ks = some objs:=by exact rfl) (hpo:qtr (qdn ks) σ.heap ks:=by trivial) (henv:qwk σ (qdn ks) true l:=by repeat' (first | exact trivial | refine ⟨rfl,trivial,?_⟩)):Weak σ (St.of l objs σ.nt σ.base):=qbk ks hbase hnd hobjs hpo henv
theorem rt0 {τ:Tab} {σ:St} {rs:List ResultVar} {fr:Bool} {R:V→List AObj→List AObj→Prop} {rv r:V} (h:resV τ rs σ = some rv) (hr:exV (qdn (List.range 0 ++ [])) σ.heap true rv = some r) (hR:R r [] []) (hp:exVP (qdn (List.range 0 ++ [])) σ.heap rv:=by trivial) (hf:fr = true→r.flat∧∀ o ∈ ([]:List AObj) ++ [],o.flat:=by exact fun _=>⟨by simp [V.flat,V.qiq,V.qf9,D.flat],qct⟩):RetQ τ rs fr 0 R .ret σ :=
 qb0 (.inr rfl) [] (objs':=[]) (new:=[]) h (by simp) (by simp) hr hp rfl rfl (by trivial) hf hR
def qal (x:Int):List D:=[.int .u8 x]
@[simp] theorem eIntu8_len (x:Int):(qal x).length = 1:=rfl
structure qao where
 code:List Int
 at_:Int
 seed:Int
deriving DecidableEq
structure qaa where
 A:Cx
 B:Cx
 C:Cx
deriving DecidableEq
structure SBus where
 qb4:Int
 Own:Cx
 Shared:Cx
 Kind:Int
 Load:qaa
 qas:Int
deriving DecidableEq
def qae (x:SBus):List D:=[.int .i64 x.qb4,cd x.Own,cd x.Shared,.int .i64 x.Kind,cd x.Load.A,cd x.Load.B,cd x.Load.C,.int .i64 x.qas]
@[simp] theorem eSBus_len (x:SBus):(qae x).length = 8:=rfl
theorem qjs (x:SBus):∀ c ∈ qae x,c.flat:=by simp [qae,D.flat]
def qmt (x:Int):List D:=[.int .i64 x]
@[simp] theorem eInti64_len (x:Int):(qmt x).length = 1:=rfl
structure qb8 where
 Source:qaa
 qa5:List SBus
deriving DecidableEq
structure STie where
 A:Int
 B:Int
 Own:Cx
 Shared:Cx
 Most:Int
deriving DecidableEq
def qah (x:STie):List D:=[.int .i64 x.A,.int .i64 x.B,cd x.Own,cd x.Shared,.int .i64 x.Most]
@[simp] theorem eSTie_len (x:STie):(qah x).length = 5:=rfl
theorem qki (x:STie):∀ c ∈ qah x,c.flat:=by simp [qah,D.flat]
structure qbg where
 qa1:qb8
 Ties:List STie
deriving DecidableEq
structure qav where
 qap:List qaa
 qau:List qaa
 Rounds:Int
 qdo:Bool
deriving DecidableEq
def qa7 (x:qaa):List D:=[cd x.A,cd x.B,cd x.C]
@[simp] theorem eSPhases_len (x:qaa):(qa7 x).length = 3:=rfl
theorem qhe (x:qaa):∀ c ∈ qa7 x,c.flat:=by simp [qa7,D.flat]
def qad (x:qav):List D:=[.sl false (x.qap.map qa7),.sl false (x.qau.map qa7),.int .i64 x.Rounds,.bool x.qdo]
@[simp] theorem eSFlow_len (x:qav):(qad x).length = 4:=rfl
structure qan where
 Grid:qbg
 qa9:List qav
deriving DecidableEq
def qip (x:Nat):List D:=[.fl .f32 x]
@[simp] theorem eNatf32_len (x:Nat):(qip x).length = 1:=rfl
theorem eNatf32_flat (x:Nat):∀ c ∈ qip x,c.flat:=by simp [qip,D.flat]
structure qba where
 s:Str
 at_:Int
 short:Bool
deriving DecidableEq
theorem qy3 {x:Nat} (hx:isnan .f32 x = false):qo6 prog 84 [.d (.fl .f32 x)] (.d (.int .u32 x)):=qsd (e:=Extern.MathFloatBits.float32bits) func84 rfl rfl (by kernel_rfl) (by kernel_rfl) fun W hb H ok vals h=>bits_run (fun _=>rfl) hx h
theorem qxj {x:Int} (hx:x.toNat < 4294967296):qo6 prog 109 [.d (.int .u32 x)] (.d (.fl .f32 (canon .f32 x.toNat))):=qsd (e:=Extern.MathFloatBits.float32frombits) func109 rfl rfl (by kernel_rfl) (by kernel_rfl) fun W hb H ok vals h=>qp9 (k:=.f32) (fun _=>rfl) hx h
theorem ext114 {x:Int} (hx:x.toNat < 18446744073709551616):qo6 prog 114 [.d (.int .u64 x)] (.d (.fl .f64 (canon .f64 x.toNat))):=qsd (e:=Extern.MathFloatBits.float64frombits) func114 rfl rfl (by kernel_rfl) (by kernel_rfl) fun W hb H ok vals h=>qp9 (k:=.f64) (fun _=>rfl) hx h
theorem ext117 {x:Nat}:qo6 prog 117 [.d (.fl .f64 x)] (.d (.fl .f64 (qwp x))):=qsd (e:=Extern.MathSqrt.sqrt) func117 rfl rfl (by kernel_rfl) (by kernel_rfl) fun W hb H ok vals h=>sqrt_run h
def qju (n:Nat) (code_:List Int) (more_:List Int):Option Bool :=
 if (code_.length:Int) > (48:Int) then
  some true
 else
  some (decide ((more_.length:Int) > (48:Int)))
theorem laws_r8Long_ok_fr0 (fr:Bool) (n:Nat) (code_:List Int) (more_:List Int) {r:Bool} (h:qju n code_ more_ = some r):qax prog fr 4 [sv qal code_,sv qal more_] [] (fun v o new=>v = (bv r)∧o = []∧new = []):=by
 refine qaj hτ func4 rfl (by simp) (by simp) ?_
 unfold qju at h
 refine qa6<|qa2<|qa0 hτ rfl rfl rfl<|qa4<|qa6<|qa2<|qa0 hτ rfl rfl rfl ?_
 refine qa0 hτ (v:=iv (code_.length:Int)) rfl rfl (Eq.trans rfl (qf1 (f:=qal) code_)) ?_
 refine qa0 hτ rfl rfl rfl<|qa0 hτ rfl rfl rfl ?_
 refine qay 8 rfl (fun hb3=>?_) (fun hb3=>?_)
 ·have h:=if_t h hb3
  refine qa3 rfl rfl<|qa3 rfl rfl<|qa3 rfl rfl<|qa0 hτ rfl rfl rfl<|qa0 hτ rfl rfl rfl<|qa4 ?_
  refine qa8 (wk [] (l:=[(4,bv true)]) (objs:=[])) ?_
  refine qaq ?_
  have hr:=Option.some.inj h
  subst hr
  exact rt0 rfl rfl ⟨rfl,rfl,rfl⟩
 ·have h:=if_f h hb3
  refine qa0 hτ rfl rfl rfl ?_
  refine qa0 hτ (v:=iv (more_.length:Int)) rfl rfl (Eq.trans rfl (qf1 (f:=qal) more_)) ?_
  refine qa0 hτ rfl rfl rfl<|qa0 hτ rfl rfl rfl<|qa0 hτ rfl rfl rfl<|qa4 ?_
  refine qa8 (wk [] (l:=[(4,bv (decide ((more_.length:Int) > (48:Int))))]) (objs:=[])) ?_
  refine qaq ?_
  have hr:=Option.some.inj h
  subst hr
  exact rt0 rfl rfl ⟨rfl,rfl,rfl⟩
theorem laws_r8Long_ok (n:Nat) (code_:List Int) (more_:List Int) {r:Bool} (h:qju n code_ more_ = some r):qax prog false 4 [sv qal code_,sv qal more_] [] (fun v o new=>v = (bv r)∧o = []∧new = []):=laws_r8Long_ok_fr0 false n code_ more_ h
def qmh (n:Nat) (code_:List Int):Option qao :=
 some (qao.mk code_ (0:Int) (0:Int))
theorem spec_l00From_ok (n:Nat) (code_:List Int) {r:qao} (h:qmh n code_ = some r):qax prog false 16 [sv qal code_] [] (fun v o new=>v = .ptr 0 0∧o = []∧new = [.box [sv qal r.code,iv r.at_,.d (.int .u64 r.seed)]]):=by
 refine qaj hτ func16 rfl (by simp) (by simp) ?_
 unfold qmh at h
 refine qa6<|qa2<|qa0 hτ rfl rfl rfl<|qa4<|qa6<|qa2<|qa0 hτ rfl rfl rfl<|qa0 hτ rfl rfl rfl ?_
 refine qaf hτ rfl rfl rfl<|qa0 hτ rfl rfl rfl<|qa4 ?_
 refine qa8 (wk [0] (l:=[(2,.ptr 0 0)]) (objs:=[.box [sv qal code_,iv (0:Int),.d (.int .u64 (0:Int))]])) ?_
 refine qaq ?_
 have hr:=Option.some.inj h
 subst hr
 exact qb0 (.inr rfl) [0] (objs':=[]) (new:=[.box [sv qal code_,iv (0:Int),.d (.int .u64 (0:Int))]]) rfl (by simp) (by simp) rfl (by trivial) rfl rfl (by trivial) (fun h=>nomatch h) ⟨rfl,rfl,rfl⟩
def qdh (n:Nat) (s_:qao) (v5:Int):Option (Int × qao) :=
 if (w64 (s_.at_ + (1:Int))) ≤ (s_.code.length:Int) then
  some (v5,(qao.mk s_.code (w64 (s_.at_ + (1:Int))) (IntKind.wrap .u64 ((IntKind.wrap .u64 ((IntKind.wrap .u64 (s_.seed * (6364136223846793005:Int))) + (IntKind.wrap .u64 (v5)))) + (1442695040888963407:Int)))))
 else
  some ((w64 ((qir .and .u64 ((IntKind.wrap .u64 ((IntKind.wrap .u64 ((IntKind.wrap .u64 (s_.seed * (6364136223846793005:Int))) + (IntKind.wrap .u64 (v5)))) + (1442695040888963407:Int))).fdiv (2 ^ min (40:Int).toNat (IntKind.bits .u64))) (255:Int)))),(qao.mk s_.code (w64 (s_.at_ + (1:Int))) (IntKind.wrap .u64 ((IntKind.wrap .u64 ((IntKind.wrap .u64 (s_.seed * (6364136223846793005:Int))) + (IntKind.wrap .u64 (v5)))) + (1442695040888963407:Int)))))
def qg6 (n:Nat) (s_:qao):Option (Int × qao) :=
 if s_.at_ < (s_.code.length:Int) then
  (getI s_.code s_.at_).bind fun x9 =>
  qdh n s_ (w64 (x9))
 else
  qdh n s_ (0:Int)
theorem qm6 (n:Nat) (s_:qao) {r:Int × qao} (h:qg6 n s_ = some r):qax prog false 61 [.ptr 0 0] [.box [sv qal s_.code,iv s_.at_,.d (.int .u64 s_.seed)]] (fun v o new=>v = (iv r.1)∧o = [.box [sv qal r.2.code,iv r.2.at_,.d (.int .u64 r.2.seed)]]∧new = []):=by
 refine qaj hτ func61 rfl (by simp) (by simp) ?_
 unfold qg6 at h
 refine qa6<|qa2<|qa0 hτ rfl rfl rfl<|qa4<|qa6<|qa2<|qa0 hτ rfl rfl rfl<|qa4 ?_
 refine qbn (ι:=Int) (fun v5=>St.of [(0,.ptr 0 0),(3,iv v5)] [.box [sv qal s_.code,iv s_.at_,.d (.int .u64 s_.seed)]] f61.ntmps 1) (fun v5=>qdh n s_ v5 = some r) ?_ (fun hk7=>?_)
 ·rintro v5 h
  replace h:qdh n s_ v5 = some r:=h
  unfold qdh at h
  refine qa6<|qa2<|qa0 hτ rfl rfl rfl<|qa0 hτ rfl rfl rfl<|qa0 hτ rfl rfl rfl<|qa0 hτ rfl rfl rfl<|qa0 hτ rfl rfl rfl<|qa0 hτ rfl rfl rfl ?_
  refine qa0 hτ rfl rfl rfl<|qaf hτ rfl rfl rfl<|qa4<|qa6 ?_
  refine qa8 (wk [0] (l:=[(0,.ptr 0 0),(3,iv v5)]) (objs:=[.box [sv qal s_.code,iv (w64 (s_.at_ + (1:Int))),.d (.int .u64 s_.seed)]])) ?_
  refine qa2<|qa0 hτ rfl rfl rfl<|qa0 hτ rfl rfl rfl<|qa0 hτ rfl rfl rfl<|qa0 hτ rfl rfl rfl<|qa0 hτ rfl rfl rfl<|qa0 hτ rfl rfl rfl<|qa0 hτ rfl rfl rfl ?_
  refine qa0 hτ rfl rfl rfl<|qa0 hτ rfl rfl rfl<|qa0 hτ rfl rfl rfl<|qa0 hτ rfl rfl rfl<|qa0 hτ rfl rfl rfl ?_
  refine qar (wk [0] (l:=[(0,.ptr 0 0),(3,iv v5),(41,.d (.int .u64 (IntKind.wrap .u64 ((IntKind.wrap .u64 ((IntKind.wrap .u64 (s_.seed * (6364136223846793005:Int))) + (IntKind.wrap .u64 (v5)))) + (1442695040888963407:Int))))),(43,.ptr 0 2)]) (objs:=[.box [sv qal s_.code,iv (w64 (s_.at_ + (1:Int))),.d (.int .u64 s_.seed)]])) ?_
  refine qaf hτ rfl rfl rfl<|qa4<|qa6<|qa6<|qd4 ?_
  refine qab hτ [] 0 rfl rfl rfl rfl rfl ?_
  refine qab hτ [] 1 rfl rfl rfl rfl rfl ?_
  refine qab hτ [0] 2 rfl rfl rfl rfl rfl ?_
  refine qab hτ [0] 3 rfl rfl rfl rfl rfl ?_
  refine qab hτ [] 4 rfl rfl rfl rfl rfl ?_
  refine qab hτ [] 5 rfl rfl rfl rfl rfl ?_
  refine qab hτ [0] 6 rfl rfl rfl rfl rfl ?_
  refine qab hτ [0] 7 rfl rfl rfl rfl rfl ?_
  refine qab hτ (v:=iv (s_.code.length:Int)) [] 8 rfl rfl rfl rfl (Eq.trans rfl (qf1 (f:=qal) s_.code)) ?_
  refine qab hτ [] 9 rfl rfl rfl rfl rfl ?_
  refine qcs mixed (by kernel_rfl) ?_
  refine qa8 (wk [0] (l:=[(0,.ptr 0 0),(3,iv v5),(53,bv (decide ((w64 (s_.at_ + (1:Int))) ≤ (s_.code.length:Int))))]) (objs:=[.box [sv qal s_.code,iv (w64 (s_.at_ + (1:Int))),.d (.int .u64 (IntKind.wrap .u64 ((IntKind.wrap .u64 ((IntKind.wrap .u64 (s_.seed * (6364136223846793005:Int))) + (IntKind.wrap .u64 (v5)))) + (1442695040888963407:Int))))]])) ?_
  refine qaw rfl (fun hc6=>?_) (fun hc6=>?_)
  ·have h:=if_t h hc6
   refine qa6<|qa2<|qa0 hτ rfl rfl rfl<|qa0 hτ rfl rfl rfl<|qa4 ?_
   refine qa8 (wk [0] (l:=[(2,iv v5)]) (objs:=[.box [sv qal s_.code,iv (w64 (s_.at_ + (1:Int))),.d (.int .u64 (IntKind.wrap .u64 ((IntKind.wrap .u64 ((IntKind.wrap .u64 (s_.seed * (6364136223846793005:Int))) + (IntKind.wrap .u64 (v5)))) + (1442695040888963407:Int))))]])) ?_
   refine qaq ?_
   have hr:=Option.some.inj h
   subst hr
   exact qb0 (.inr rfl) [] (objs':=[.box [sv qal s_.code,iv (w64 (s_.at_ + (1:Int))),.d (.int .u64 (IntKind.wrap .u64 ((IntKind.wrap .u64 ((IntKind.wrap .u64 (s_.seed * (6364136223846793005:Int))) + (IntKind.wrap .u64 (v5)))) + (1442695040888963407:Int))))]]) (new:=[]) rfl (by simp) (by simp) rfl (by trivial) rfl rfl (by trivial) (fun h=>nomatch h) ⟨rfl,rfl,rfl⟩
  ·have h:=if_f h hc6
   refine qb1<|qa6<|qa2<|qa0 hτ rfl rfl rfl<|qa0 hτ rfl rfl rfl<|qa0 hτ rfl rfl rfl<|qa0 hτ rfl rfl rfl ?_
   refine qdp hτ rfl rfl rfl (by decide) ?_
   refine qa0 hτ rfl rfl rfl<|qa0 hτ rfl rfl rfl<|qa0 hτ rfl rfl rfl<|qa4 ?_
   refine qa8 (wk [0] (l:=[(2,iv (w64 ((qir .and .u64 ((IntKind.wrap .u64 ((IntKind.wrap .u64 ((IntKind.wrap .u64 (s_.seed * (6364136223846793005:Int))) + (IntKind.wrap .u64 (v5)))) + (1442695040888963407:Int))).fdiv (2 ^ min (40:Int).toNat (IntKind.bits .u64))) (255:Int)))))]) (objs:=[.box [sv qal s_.code,iv (w64 (s_.at_ + (1:Int))),.d (.int .u64 (IntKind.wrap .u64 ((IntKind.wrap .u64 ((IntKind.wrap .u64 (s_.seed * (6364136223846793005:Int))) + (IntKind.wrap .u64 (v5)))) + (1442695040888963407:Int))))]])) ?_
   refine qaq ?_
   have hr:=Option.some.inj h
   subst hr
   exact qb0 (.inr rfl) [] (objs':=[.box [sv qal s_.code,iv (w64 (s_.at_ + (1:Int))),.d (.int .u64 (IntKind.wrap .u64 ((IntKind.wrap .u64 ((IntKind.wrap .u64 (s_.seed * (6364136223846793005:Int))) + (IntKind.wrap .u64 (v5)))) + (1442695040888963407:Int))))]]) (new:=[]) rfl (by simp) (by simp) rfl (by trivial) rfl rfl (by trivial) (fun h=>nomatch h) ⟨rfl,rfl,rfl⟩
 ·refine qa6<|qa6<|qd4 ?_
  refine qab hτ [] 0 rfl rfl rfl rfl rfl ?_
  refine qab hτ [] 1 rfl rfl rfl rfl rfl ?_
  refine qab hτ [0] 2 rfl rfl rfl rfl rfl ?_
  refine qab hτ [0] 3 rfl rfl rfl rfl rfl ?_
  refine qab hτ [] 4 rfl rfl rfl rfl rfl ?_
  refine qab hτ [] 5 rfl rfl rfl rfl rfl ?_
  refine qab hτ [0] 6 rfl rfl rfl rfl rfl ?_
  refine qab hτ [0] 7 rfl rfl rfl rfl rfl ?_
  refine qab hτ (v:=iv (s_.code.length:Int)) [] 8 rfl rfl rfl rfl (Eq.trans rfl (qf1 (f:=qal) s_.code)) ?_
  refine qab hτ [] 9 rfl rfl rfl rfl rfl ?_
  refine qcs mixed (by kernel_rfl) ?_
  refine qa8 (wk [0] (l:=[(0,.ptr 0 0),(3,iv (0:Int)),(13,bv (decide (s_.at_ < (s_.code.length:Int))))]) (objs:=[.box [sv qal s_.code,iv s_.at_,.d (.int .u64 s_.seed)]])) ?_
  refine qaw rfl (fun hc8=>?_) (fun hc8=>?_)
  ·have h:=if_t h hc8
   refine qd4 ?_
   refine qab hτ [] 0 rfl rfl rfl rfl rfl ?_
   refine qab hτ [] 1 rfl rfl rfl rfl rfl ?_
   refine qab hτ [0] 2 rfl rfl rfl rfl rfl ?_
   refine qab hτ [0] 3 rfl rfl rfl rfl rfl ?_
   refine qab hτ [] 4 rfl rfl rfl rfl rfl ?_
   refine qab hτ [] 5 rfl rfl rfl rfl rfl ?_
   refine qab hτ [0] 6 rfl rfl rfl rfl rfl ?_
   refine qab hτ [0] 7 rfl rfl rfl rfl rfl ?_
   refine qag h fun x9 hx9 h=>?_
   refine qka hτ [] 8 rfl rfl rfl rfl rfl (qcw hx9).1 (qe7 hx9) rfl ?_
   refine qab hτ [] 9 rfl rfl rfl rfl rfl ?_
   refine qab hτ [] 10 rfl rfl rfl rfl rfl ?_
   refine qab hτ [] 11 rfl rfl rfl rfl rfl ?_
   refine qcs mixed (by kernel_rfl) ?_
   refine qa8 (wk [0] (l:=[(0,.ptr 0 0),(3,iv (w64 (x9)))]) (objs:=[.box [sv qal s_.code,iv s_.at_,.d (.int .u64 s_.seed)]])) ?_
   exact hk7 (w64 (x9)) h
  ·have h:=if_f h hc8
   refine qb1 ?_
   refine qa8 (wk [0] (l:=[(0,.ptr 0 0),(3,iv (0:Int))]) (objs:=[.box [sv qal s_.code,iv s_.at_,.d (.int .u64 s_.seed)]])) ?_
   exact hk7 (0:Int) h
def qdi (n:Nat) (n_:Int) (v15:List Int) (v16:Int) (v17:Int) (v18:Int):Option (Int × qao) :=
 grd (n_ ≠ 0) <|
 some ((v18.tmod n_),(qao.mk v15 v16 v17))
def qat (n:Nat) (s_:qao) (n_:Int):Option (Int × qao) :=
 if n_ ≤ (1:Int) then
  some ((0:Int),s_)
 else
  (qg6 n s_).bind fun x9 =>
  if n_ > (200:Int) then
   (qg6 n x9.2).bind fun x22 =>
   qdi n n_ x22.2.code x22.2.at_ x22.2.seed (w64 ((w64 (x9.1 * (256:Int))) + x22.1))
  else
   qdi n n_ x9.2.code x9.2.at_ x9.2.seed x9.1
theorem qb2 (n:Nat) (s_:qao) (n_:Int) {r:Int × qao} (h:qat n s_ n_ = some r):qax prog false 36 [.ptr 0 0,iv n_] [.box [sv qal s_.code,iv s_.at_,.d (.int .u64 s_.seed)]] (fun v o new=>v = (iv r.1)∧o = [.box [sv qal r.2.code,iv r.2.at_,.d (.int .u64 r.2.seed)]]∧new = []):=by
 refine qaj hτ func36 rfl (by simp) (by simp) ?_
 unfold qat at h
 refine qa6<|qa2<|qa0 hτ rfl rfl rfl<|qa4<|qa6<|qa6<|qa2<|qa0 hτ rfl rfl rfl ?_
 refine qa0 hτ rfl rfl rfl<|qa4 ?_
 refine qaw rfl (fun hc8=>?_) (fun hc8=>?_)
 ·have h:=if_t h hc8
  refine qa6<|qa2<|qa0 hτ rfl rfl rfl<|qa4 ?_
  refine qa8 (wk [0] (l:=[(4,iv (0:Int))]) (objs:=[.box [sv qal s_.code,iv s_.at_,.d (.int .u64 s_.seed)]])) ?_
  refine qaq ?_
  have hr:=Option.some.inj h
  subst hr
  exact qb0 (.inr rfl) [] (objs':=[.box [sv qal s_.code,iv s_.at_,.d (.int .u64 s_.seed)]]) (new:=[]) rfl (by simp) (by simp) rfl (by trivial) rfl rfl (by trivial) (fun h=>nomatch h) ⟨rfl,rfl,rfl⟩
 ·have h:=if_f h hc8
  refine qb1<|qa6<|qa2<|qa0 hτ rfl rfl rfl ?_
  refine qag h fun x9 hx9 h=>?_
  refine qac hτ false [0] rfl rfl rfl (qai func61 rfl rfl) rfl rfl (by simp) ⟨trivial,trivial⟩ (by trivial) (qm6 n s_ hx9) ?_
  rintro r0 o0 n0 ⟨rfl,rfl,rfl⟩ -
  refine qa0 hτ rfl rfl rfl<|qa4 ?_
  refine qbn (ι:=List Int × Int × Int × Int) (fun (v15,v16,v17,v18)=>St.of [(1,iv n_),(5,iv v18)] [.box [sv qal v15,iv v16,.d (.int .u64 v17)]] f36.ntmps 1) (fun (v15,v16,v17,v18)=>qdi n n_ v15 v16 v17 v18 = some r) ?_ (fun hk20=>?_)
  ·rintro ⟨v15,v16,v17,v18⟩ h
   replace h:qdi n n_ v15 v16 v17 v18 = some r:=h
   unfold qdi at h
   refine qa6<|qa2<|qa0 hτ rfl rfl rfl<|qa0 hτ rfl rfl rfl ?_
   refine qcr h fun hg19 h=>?_
   refine qdp hτ rfl rfl rfl hg19 ?_
   refine qa0 hτ rfl rfl rfl<|qa4 ?_
   refine qa8 (wk [0] (l:=[(4,iv (v18.tmod n_))]) (objs:=[.box [sv qal v15,iv v16,.d (.int .u64 v17)]])) ?_
   refine qaq ?_
   have hr:=Option.some.inj h
   subst hr
   exact qb0 (.inr rfl) [] (objs':=[.box [sv qal v15,iv v16,.d (.int .u64 v17)]]) (new:=[]) rfl (by simp) (by simp) rfl (by trivial) rfl rfl (by trivial) (fun h=>nomatch h) ⟨rfl,rfl,rfl⟩
  ·refine qa6<|qa6 ?_
   refine qa8 (wk [0] (l:=[(0,.ptr 0 0),(1,iv n_),(5,iv x9.1)]) (objs:=[.box [sv qal x9.2.code,iv x9.2.at_,.d (.int .u64 x9.2.seed)]])) ?_
   refine qa2<|qa0 hτ rfl rfl rfl<|qa0 hτ rfl rfl rfl<|qa4 ?_
   refine qaw rfl (fun hc21=>?_) (fun hc21=>?_)
   ·have h:=if_t h hc21
    refine qa2<|qa0 hτ rfl rfl rfl<|qa0 hτ rfl rfl rfl<|qa0 hτ rfl rfl rfl ?_
    refine qag h fun x22 hx22 h=>?_
    refine qac hτ false [0] rfl rfl rfl (qai func61 rfl rfl) rfl rfl (by simp) ⟨trivial,trivial⟩ (by trivial) (qm6 n x9.2 hx22) ?_
    rintro r0 o0 n0 ⟨rfl,rfl,rfl⟩ -
    refine qa0 hτ rfl rfl rfl<|qa0 hτ rfl rfl rfl<|qa4 ?_
    refine qa8 (wk [0] (l:=[(1,iv n_),(5,iv (w64 ((w64 (x9.1 * (256:Int))) + x22.1)))]) (objs:=[.box [sv qal x22.2.code,iv x22.2.at_,.d (.int .u64 x22.2.seed)]])) ?_
    exact hk20 (x22.2.code,x22.2.at_,x22.2.seed,(w64 ((w64 (x9.1 * (256:Int))) + x22.1))) h
   ·have h:=if_f h hc21
    refine qb1 ?_
    refine qa8 (wk [0] (l:=[(1,iv n_),(5,iv x9.1)]) (objs:=[.box [sv qal x9.2.code,iv x9.2.at_,.d (.int .u64 x9.2.seed)]])) ?_
    exact hk20 (x9.2.code,x9.2.at_,x9.2.seed,x9.1) h
def qe5 (n:Nat) (n_:Int):Option Nat :=
 grd ((IntKind.wrap .u32 (n_)).toNat < 4294967296) <|
 some (canon .f32 (IntKind.wrap .u32 (n_)).toNat)
theorem spec_l01From_ok_fr0 (fr:Bool) (n:Nat) (n_:Int) {r:Nat} (h:qe5 n n_ = some r):qax prog fr 100 [iv n_] [] (fun v o new=>v = .d (.fl .f32 r)∧o = []∧new = []):=by
 refine qaj hτ func100 rfl (by simp) (by simp) ?_
 unfold qe5 at h
 refine qa6<|qa2<|qa0 hτ rfl rfl rfl<|qa4<|qa6<|qa2<|qa0 hτ rfl rfl rfl<|qa0 hτ rfl rfl rfl ?_
 refine qcr h fun hg2 h=>?_
 refine qo7 hτ rfl rfl rfl (qxj hg2) ?_
 refine qa0 hτ rfl rfl rfl<|qa4 ?_
 refine qa8 (wk [] (l:=[(2,.d (.fl .f32 (canon .f32 (IntKind.wrap .u32 (n_)).toNat)))]) (objs:=[])) ?_
 refine qaq ?_
 have hr:=Option.some.inj h
 subst hr
 exact rt0 rfl rfl ⟨rfl,rfl,rfl⟩
theorem qii (n:Nat) (n_:Int) {r:Nat} (h:qe5 n n_ = some r):qax prog false 100 [iv n_] [] (fun v o new=>v = .d (.fl .f32 r)∧o = []∧new = []):=spec_l01From_ok_fr0 false n n_ h
def qns (n:Nat):Option Nat :=
 grd ((9221120237041090561:Int).toNat < 18446744073709551616) <|
 some (canon .f64 (9221120237041090561:Int).toNat)
theorem math_NaN_ok_fr0 (fr:Bool) (n:Nat) {r:Nat} (h:qns n = some r):qax prog fr 110 [] [] (fun v o new=>v = .d (.fl .f64 r)∧o = []∧new = []):=by
 refine qaj hτ func110 rfl (by simp) (by simp) ?_
 unfold qns at h
 refine qa6<|qa2<|qa0 hτ rfl rfl rfl<|qa4<|qa6<|qa2 ?_
 refine qcr h fun hg2 h=>?_
 refine qo7 hτ rfl rfl rfl (ext114 hg2) ?_
 refine qa0 hτ rfl rfl rfl<|qa4 ?_
 refine qa8 (wk [] (l:=[(0,.d (.fl .f64 (canon .f64 (9221120237041090561:Int).toNat)))]) (objs:=[])) ?_
 refine qaq ?_
 have hr:=Option.some.inj h
 subst hr
 exact rt0 rfl rfl ⟨rfl,rfl,rfl⟩
theorem math_NaN_ok (n:Nat) {r:Nat} (h:qns n = some r):qax prog false 110 [] [] (fun v o new=>v = .d (.fl .f64 r)∧o = []∧new = []):=math_NaN_ok_fr0 false n h
def qht (n:Nat) (v19:Nat) (v23:Nat) (v28:Nat):Option Nat :=
 if (fcmp .geq .f64 v19 (4602678819172646912:Nat)) = true then
  some (fneg .f64 (qam .mul .f64 (qam .mul .f64 v23 (4618760256179416344:Nat)) v28))
 else
  some (qam .mul .f64 (qam .mul .f64 v23 (4618760256179416344:Nat)) v28)
def qeq (n:Nat) (v19:Nat) (v23:Nat):Nat→Nat→Int→Option Nat
 | 0,_,_=>none
 | m35 + 1,v31,v32 =>
  if v32 ≥ (1:Int) then
   (qeq n v19 v23 m35) (qam .sub .f64 (4607182418800017408:Nat) (qam .quo .f64 (qam .mul .f64 (qam .mul .f64 (qam .mul .f64 v23 (4618760256179416344:Nat)) (qam .mul .f64 v23 (4618760256179416344:Nat))) v31) (FloatKind.nearest .f64 (w64 ((w64 ((2:Int) * v32)) * (w64 ((w64 ((2:Int) * v32)) + (1:Int)))))))) (w64 (v32 - (1:Int)))
  else
   qht n v19 v23 v31
def qfx (n:Nat) (v19:Nat) (v23:Nat):Option Nat :=
 qeq n v19 v23 n (4607182418800017408:Nat) (8:Int)
def qfw (n:Nat) (v19:Nat) (v21:Nat):Option Nat :=
 if (fcmp .gtr .f64 v21 (4598175219545276416:Nat)) = true then
  qfx n v19 (qam .sub .f64 (4602678819172646912:Nat) v21)
 else
  qfx n v19 v21
def qfv (n:Nat) (v19:Nat):Option Nat :=
 if (fcmp .geq .f64 v19 (4602678819172646912:Nat)) = true then
  qfw n v19 (qam .sub .f64 v19 (4602678819172646912:Nat))
 else
  qfw n v19 v19
def qhs (n:Nat) (y_:Nat):Option Nat :=
 (f2i .f64 .i64 y_).bind fun x17 =>
 if (fcmp .lss .f64 (qam .sub .f64 y_ (FloatKind.nearest .f64 x17)) (0:Nat)) = true then
  qfv n (qam .add .f64 (qam .sub .f64 y_ (FloatKind.nearest .f64 x17)) (4607182418800017408:Nat))
 else
  qfv n (qam .sub .f64 y_ (FloatKind.nearest .f64 x17))
def qfy (n:Nat) (y_:Nat) (v47:Bool):Option Nat :=
 if v47 = true then
  some (0:Nat)
 else
  qhs n y_
def qhr (n:Nat) (y_:Nat):Option Nat :=
 if (fcmp .neq .f64 (qam .sub .f64 y_ y_) (0:Nat)) = true then
  (qns n).bind fun x14 =>
  some x14
 else
  if (fcmp .geq .f64 y_ (4841369599423283200:Nat)) = true then
   qfy n y_ true
  else
   qfy n y_ (fcmp .leq .f64 y_ (14064741636278059008:Nat))
theorem spec_l01SineWide_ok_fr0 (fr:Bool) (n:Nat) (y_:Nat) {r:Nat} (h:qhr n y_ = some r):qax prog fr 101 [.d (.fl .f64 y_)] [] (fun v o new=>v = .d (.fl .f64 r)∧o = []∧new = []):=by
 refine qaj hτ func101 rfl (by simp) (by simp) ?_
 unfold qhr at h
 refine qa6<|qa2<|qa0 hτ rfl rfl rfl<|qa4<|qa6<|qa6<|qa2<|qa0 hτ rfl rfl rfl ?_
 refine qa0 hτ rfl rfl rfl<|qa0 hτ rfl rfl rfl<|qa0 hτ rfl rfl rfl<|qa4 ?_
 refine qaw rfl (fun hc13=>?_) (fun hc13=>?_)
 ·have h:=qcv h hc13
  refine qa6<|qa2 ?_
  refine qag h fun x14 hx14 h=>?_
  refine qac hτ false [] rfl rfl rfl (qai func110 rfl rfl) rfl rfl (by simp) trivial (by trivial) (math_NaN_ok n hx14) ?_
  rintro r0 o0 n0 ⟨rfl,rfl,rfl⟩ -
  refine qa0 hτ rfl rfl rfl<|qa4 ?_
  refine qa8 (wk [] (l:=[(2,.d (.fl .f64 x14))]) (objs:=[])) ?_
  refine qaq ?_
  have hr:=Option.some.inj h
  subst hr
  exact rt0 rfl rfl ⟨rfl,rfl,rfl⟩
 ·have h:=qcu h hc13
  refine qb1 ?_
  refine qbn (ι:=Unit) (fun _=>St.of [(0,.d (.fl .f64 y_))] [] f101.ntmps 0) (fun _=>qhs n y_ = some r) ?_ (fun hk44=>?_)
  ·rintro ⟨⟩ h
   replace h:qhs n y_ = some r:=h
   unfold qhs at h
   refine qa6<|qa2<|qa0 hτ rfl rfl rfl<|qa0 hτ rfl rfl rfl ?_
   refine qag h fun x17 hx17 h=>?_
   refine qxz rfl rfl (qyi hτ rfl rfl rfl rfl rfl rfl hx17) ?_
   refine qa0 hτ rfl rfl rfl<|qa0 hτ rfl rfl rfl<|qa0 hτ rfl rfl rfl<|qa4 ?_
   refine qbn (ι:=Nat) (fun v19=>St.of [(3,.d (.fl .f64 v19))] [] f101.ntmps 0) (fun v19=>qfv n v19 = some r) ?_ (fun hk42=>?_)
   ·rintro v19 h
    replace h:qfv n v19 = some r:=h
    unfold qfv at h
    refine qa6<|qa2<|qa0 hτ rfl rfl rfl<|qa0 hτ rfl rfl rfl<|qa0 hτ rfl rfl rfl<|qa4 ?_
    refine qbn (ι:=Nat) (fun v21=>St.of [(3,.d (.fl .f64 v21)),(4,bv (fcmp .geq .f64 v19 (4602678819172646912:Nat)))] [] f101.ntmps 0) (fun v21=>qfw n v19 v21 = some r) ?_ (fun hk40=>?_)
    ·rintro v21 h
     replace h:qfw n v19 v21 = some r:=h
     unfold qfw at h
     refine qbn (ι:=Nat) (fun v23=>St.of [(3,.d (.fl .f64 v23)),(4,bv (fcmp .geq .f64 v19 (4602678819172646912:Nat)))] [] f101.ntmps 0) (fun v23=>qfx n v19 v23 = some r) ?_ (fun hk38=>?_)
     ·rintro v23 h
      replace h:qfx n v19 v23 = some r:=h
      unfold qfx at h
      refine qa6<|qa2<|qa0 hτ rfl rfl rfl<|qa0 hτ rfl rfl rfl<|qa0 hτ rfl rfl rfl<|qa4<|qa6<|qa2 ?_
      refine qa0 hτ rfl rfl rfl<|qa0 hτ rfl rfl rfl<|qa0 hτ rfl rfl rfl<|qa0 hτ rfl rfl rfl<|qa4<|qa6 ?_
      refine qa8 (wk [] (l:=[(4,bv (fcmp .geq .f64 v19 (4602678819172646912:Nat))),(5,.d (.fl .f64 (qam .mul .f64 v23 (4618760256179416344:Nat)))),(6,.d (.fl .f64 (qam .mul .f64 (qam .mul .f64 v23 (4618760256179416344:Nat)) (qam .mul .f64 v23 (4618760256179416344:Nat)))))]) (objs:=[])) ?_
      refine qa2<|qa0 hτ rfl rfl rfl<|qa4 ?_
      refine qbn (ι:=Nat) (fun v28=>St.of [(4,bv (fcmp .geq .f64 v19 (4602678819172646912:Nat))),(5,.d (.fl .f64 (qam .mul .f64 v23 (4618760256179416344:Nat)))),(7,.d (.fl .f64 v28))] [] f101.ntmps 0) (fun v28=>qht n v19 v23 v28 = some r) ?_ (fun hk30=>?_)
      ·rintro v28 h
       replace h:qht n v19 v23 v28 = some r:=h
       unfold qht at h
       refine qa6<|qa6<|qa2<|qa0 hτ rfl rfl rfl<|qa4 ?_
       refine qaw rfl (fun hc29=>?_) (fun hc29=>?_)
       ·have h:=qcv h hc29
        refine qa6<|qa2<|qa0 hτ rfl rfl rfl<|qa0 hτ rfl rfl rfl<|qa0 hτ rfl rfl rfl<|qa0 hτ rfl rfl rfl<|qa0 hτ rfl rfl rfl<|qa4 ?_
        refine qa8 (wk [] (l:=[(2,.d (.fl .f64 (fneg .f64 (qam .mul .f64 (qam .mul .f64 v23 (4618760256179416344:Nat)) v28))))]) (objs:=[])) ?_
        refine qaq ?_
        have hr:=Option.some.inj h
        subst hr
        exact rt0 rfl rfl ⟨rfl,rfl,rfl⟩
       ·have h:=qcu h hc29
        refine qb1<|qa6<|qa2<|qa0 hτ rfl rfl rfl<|qa0 hτ rfl rfl rfl<|qa0 hτ rfl rfl rfl<|qa0 hτ rfl rfl rfl<|qa4 ?_
        refine qa8 (wk [] (l:=[(2,.d (.fl .f64 (qam .mul .f64 (qam .mul .f64 v23 (4618760256179416344:Nat)) v28)))]) (objs:=[])) ?_
        refine qaq ?_
        have hr:=Option.some.inj h
        subst hr
        exact rt0 rfl rfl ⟨rfl,rfl,rfl⟩
      ·refine qa6<|qa6<|qa2<|qa0 hτ rfl rfl rfl<|qa4<|qb9 ?_
       refine qev (ι:=Nat × Nat × Int) (fun (m35,v31,v32)=>St.of [(4,bv (fcmp .geq .f64 v19 (4602678819172646912:Nat))),(5,.d (.fl .f64 (qam .mul .f64 v23 (4618760256179416344:Nat)))),(6,.d (.fl .f64 (qam .mul .f64 (qam .mul .f64 v23 (4618760256179416344:Nat)) (qam .mul .f64 v23 (4618760256179416344:Nat))))),(7,.d (.fl .f64 v31)),(8,iv v32)] [] f101.ntmps 0) (fun (m35,v31,v32)=>qeq n v19 v23 m35 v31 v32 = some r) (fun x=>x.1) (n,(4607182418800017408:Nat),(8:Int)) h (wk [] (l:=[(4,bv (fcmp .geq .f64 v19 (4602678819172646912:Nat))),(5,.d (.fl .f64 (qam .mul .f64 v23 (4618760256179416344:Nat)))),(6,.d (.fl .f64 (qam .mul .f64 (qam .mul .f64 v23 (4618760256179416344:Nat)) (qam .mul .f64 v23 (4618760256179416344:Nat))))),(7,.d (.fl .f64 (4607182418800017408:Nat))),(8,iv (8:Int))]) (objs:=[])) ?_
       rintro ⟨m35,v31,v32⟩ h
       replace h:qeq n v19 v23 m35 v31 v32 = some r:=h
       rcases m35 with _ | m35
       ·rw [qeq] at h;cases h
       rw [qeq] at h
       refine qa6<|qa6<|qa2<|qa0 hτ rfl rfl rfl<|qa0 hτ rfl rfl rfl<|qa4 ?_
       refine qaw rfl (fun hc37=>?_) (fun hc37=>?_)
       ·have h:=if_t h hc37
        refine qb1<|qa6<|qb9<|qa2<|qa0 hτ rfl rfl rfl<|qa0 hτ rfl rfl rfl<|qa0 hτ rfl rfl rfl<|qa0 hτ rfl rfl rfl ?_
        refine qa0 hτ rfl rfl rfl<|qa0 hτ rfl rfl rfl<|qa0 hτ rfl rfl rfl<|qa0 hτ rfl rfl rfl<|qa0 hτ rfl rfl rfl<|qa0 hτ rfl rfl rfl ?_
        refine qar (wk [] (l:=[(4,bv (fcmp .geq .f64 v19 (4602678819172646912:Nat))),(5,.d (.fl .f64 (qam .mul .f64 v23 (4618760256179416344:Nat)))),(6,.d (.fl .f64 (qam .mul .f64 (qam .mul .f64 v23 (4618760256179416344:Nat)) (qam .mul .f64 v23 (4618760256179416344:Nat))))),(8,iv v32),(49,.d (.fl .f64 (qam .mul .f64 (qam .mul .f64 (qam .mul .f64 v23 (4618760256179416344:Nat)) (qam .mul .f64 v23 (4618760256179416344:Nat))) v31))),(56,.d (.fl .f64 (FloatKind.nearest .f64 (w64 ((w64 ((2:Int) * v32)) * (w64 ((w64 ((2:Int) * v32)) + (1:Int))))))))]) (objs:=[])) ?_
        refine qa0 hτ rfl rfl rfl<|qa0 hτ rfl rfl rfl<|qa0 hτ rfl rfl rfl<|qa4<|qa2<|qa0 hτ rfl rfl rfl<|qa0 hτ rfl rfl rfl<|qa0 hτ rfl rfl rfl ?_
        refine qa4 ?_
        exact ⟨(m35,(qam .sub .f64 (4607182418800017408:Nat) (qam .quo .f64 (qam .mul .f64 (qam .mul .f64 (qam .mul .f64 v23 (4618760256179416344:Nat)) (qam .mul .f64 v23 (4618760256179416344:Nat))) v31) (FloatKind.nearest .f64 (w64 ((w64 ((2:Int) * v32)) * (w64 ((w64 ((2:Int) * v32)) + (1:Int)))))))),(w64 (v32 - (1:Int)))),h,Nat.lt_succ_self m35,(wk [] (l:=[(4,bv (fcmp .geq .f64 v19 (4602678819172646912:Nat))),(5,.d (.fl .f64 (qam .mul .f64 v23 (4618760256179416344:Nat)))),(6,.d (.fl .f64 (qam .mul .f64 (qam .mul .f64 v23 (4618760256179416344:Nat)) (qam .mul .f64 v23 (4618760256179416344:Nat))))),(7,.d (.fl .f64 (qam .sub .f64 (4607182418800017408:Nat) (qam .quo .f64 (qam .mul .f64 (qam .mul .f64 (qam .mul .f64 v23 (4618760256179416344:Nat)) (qam .mul .f64 v23 (4618760256179416344:Nat))) v31) (FloatKind.nearest .f64 (w64 ((w64 ((2:Int) * v32)) * (w64 ((w64 ((2:Int) * v32)) + (1:Int)))))))))),(8,iv (w64 (v32 - (1:Int))))]) (objs:=[]))⟩
       ·have h:=if_f h hc37
        refine qe4 ?_
        refine qa8 (wk [] (l:=[(4,bv (fcmp .geq .f64 v19 (4602678819172646912:Nat))),(5,.d (.fl .f64 (qam .mul .f64 v23 (4618760256179416344:Nat)))),(7,.d (.fl .f64 v31))]) (objs:=[])) ?_
        exact hk30 v31 h
     ·refine qa6<|qa6<|qa2<|qa0 hτ rfl rfl rfl<|qa0 hτ rfl rfl rfl<|qa4 ?_
      refine qaw rfl (fun hc39=>?_) (fun hc39=>?_)
      ·have h:=qcv h hc39
       refine qa2<|qa0 hτ rfl rfl rfl<|qa0 hτ rfl rfl rfl<|qa0 hτ rfl rfl rfl<|qa4 ?_
       refine qa8 (wk [] (l:=[(3,.d (.fl .f64 (qam .sub .f64 (4602678819172646912:Nat) v21))),(4,bv (fcmp .geq .f64 v19 (4602678819172646912:Nat)))]) (objs:=[])) ?_
       exact hk38 (qam .sub .f64 (4602678819172646912:Nat) v21) h
      ·have h:=qcu h hc39
       refine qb1 ?_
       refine qa8 (wk [] (l:=[(3,.d (.fl .f64 v21)),(4,bv (fcmp .geq .f64 v19 (4602678819172646912:Nat)))]) (objs:=[])) ?_
       exact hk38 v21 h
    ·refine qa6<|qa6<|qa2<|qa0 hτ rfl rfl rfl<|qa4 ?_
     refine qaw rfl (fun hc41=>?_) (fun hc41=>?_)
     ·have h:=qcv h hc41
      refine qa2<|qa0 hτ rfl rfl rfl<|qa0 hτ rfl rfl rfl<|qa0 hτ rfl rfl rfl<|qa4 ?_
      refine qa8 (wk [] (l:=[(3,.d (.fl .f64 (qam .sub .f64 v19 (4602678819172646912:Nat)))),(4,bv (fcmp .geq .f64 v19 (4602678819172646912:Nat)))]) (objs:=[])) ?_
      exact hk40 (qam .sub .f64 v19 (4602678819172646912:Nat)) h
     ·have h:=qcu h hc41
      refine qb1 ?_
      refine qa8 (wk [] (l:=[(3,.d (.fl .f64 v19)),(4,bv (fcmp .geq .f64 v19 (4602678819172646912:Nat)))]) (objs:=[])) ?_
      exact hk40 v19 h
   ·refine qa6<|qa6 ?_
    refine qa8 (wk [] (l:=[(3,.d (.fl .f64 (qam .sub .f64 y_ (FloatKind.nearest .f64 x17))))]) (objs:=[])) ?_
    refine qa2<|qa0 hτ rfl rfl rfl<|qa0 hτ rfl rfl rfl<|qa4 ?_
    refine qaw rfl (fun hc43=>?_) (fun hc43=>?_)
    ·have h:=qcv h hc43
     refine qa2<|qa0 hτ rfl rfl rfl<|qa0 hτ rfl rfl rfl<|qa0 hτ rfl rfl rfl<|qa4 ?_
     refine qa8 (wk [] (l:=[(3,.d (.fl .f64 (qam .add .f64 (qam .sub .f64 y_ (FloatKind.nearest .f64 x17)) (4607182418800017408:Nat))))]) (objs:=[])) ?_
     exact hk42 (qam .add .f64 (qam .sub .f64 y_ (FloatKind.nearest .f64 x17)) (4607182418800017408:Nat)) h
    ·have h:=qcu h hc43
     refine qb1 ?_
     refine qa8 (wk [] (l:=[(3,.d (.fl .f64 (qam .sub .f64 y_ (FloatKind.nearest .f64 x17))))]) (objs:=[])) ?_
     exact hk42 (qam .sub .f64 y_ (FloatKind.nearest .f64 x17)) h
  ·refine qa6 ?_
   refine qbn (ι:=Bool) (fun v47=>St.of [(0,.d (.fl .f64 y_)),(19,bv v47)] [] f101.ntmps 0) (fun v47=>qfy n y_ v47 = some r) ?_ (fun hk49=>?_)
   ·rintro v47 h
    replace h:qfy n y_ v47 = some r:=h
    unfold qfy at h
    refine qaw rfl (fun hc48=>?_) (fun hc48=>?_)
    ·have h:=qcv h hc48
     refine qa6<|qa2<|qa0 hτ rfl rfl rfl<|qa4 ?_
     refine qa8 (wk [] (l:=[(2,.d (.fl .f64 (0:Nat)))]) (objs:=[])) ?_
     refine qaq ?_
     have hr:=Option.some.inj h
     subst hr
     exact rt0 rfl rfl ⟨rfl,rfl,rfl⟩
    ·have h:=qcu h hc48
     refine qb1 ?_
     refine qa8 (wk [] (l:=[(0,.d (.fl .f64 y_))]) (objs:=[])) ?_
     exact hk44 () h
   ·refine qa6<|qa2<|qa0 hτ rfl rfl rfl<|qa0 hτ rfl rfl rfl<|qa0 hτ rfl rfl rfl ?_
    refine qay 16 rfl (fun hb50=>?_) (fun hb50=>?_)
    ·have h:=qcv h hb50
     refine qa3 rfl rfl<|qa3 rfl rfl<|qa0 hτ rfl rfl rfl<|qa4 ?_
     refine qa8 (wk [] (l:=[(0,.d (.fl .f64 y_)),(19,bv true)]) (objs:=[])) ?_
     exact hk49 true h
    ·have h:=qcu h hb50
     refine qa0 hτ rfl rfl rfl<|qa0 hτ rfl rfl rfl<|qa0 hτ rfl rfl rfl<|qa4 ?_
     refine qa8 (wk [] (l:=[(0,.d (.fl .f64 y_)),(19,bv (fcmp .leq .f64 y_ (14064741636278059008:Nat)))]) (objs:=[])) ?_
     exact hk49 (fcmp .leq .f64 y_ (14064741636278059008:Nat)) h
theorem qm7 (n:Nat) (y_:Nat) {r:Nat} (h:qhr n y_ = some r):qax prog false 101 [.d (.fl .f64 y_)] [] (fun v o new=>v = .d (.fl .f64 r)∧o = []∧new = []):=spec_l01SineWide_ok_fr0 false n y_ h
def qbs (n:Nat) (x_:Nat):Option Nat :=
 (qmu .f64 .f32 x_).bind fun x2 =>
 some x2
theorem spec_l01Narrow_ok_fr0 (fr:Bool) (n:Nat) (x_:Nat) {r:Nat} (h:qbs n x_ = some r):qax prog fr 102 [.d (.fl .f64 x_)] [] (fun v o new=>v = .d (.fl .f32 r)∧o = []∧new = []):=by
 refine qaj hτ func102 rfl (by simp) (by simp) ?_
 unfold qbs at h
 refine qa6<|qa2<|qa0 hτ rfl rfl rfl<|qa4<|qa6<|qa2<|qa0 hτ rfl rfl rfl ?_
 refine qag h fun x2 hx2 h=>?_
 refine qa0 hτ (v:=.d (.fl .f32 x2)) rfl rfl (qog hx2) ?_
 refine qa0 hτ rfl rfl rfl<|qa4 ?_
 refine qa8 (wk [] (l:=[(2,.d (.fl .f32 x2))]) (objs:=[])) ?_
 refine qaq ?_
 have hr:=Option.some.inj h
 subst hr
 exact rt0 rfl rfl ⟨rfl,rfl,rfl⟩
theorem qd7 (n:Nat) (x_:Nat) {r:Nat} (h:qbs n x_ = some r):qax prog false 102 [.d (.fl .f64 x_)] [] (fun v o new=>v = .d (.fl .f32 r)∧o = []∧new = []):=spec_l01Narrow_ok_fr0 false n x_ h
def qd5 (n:Nat) (x_:Nat) (Q_:Nat→Prop):Prop :=
 nrwP .f64 .f32 x_ fun x2 =>
 Q_ (x2)
theorem spec_l01Narrow_okP_fr0 (fr:Bool) (n:Nat) (x_:Nat) {Q_:Nat→Prop} (h:qd5 n x_ Q_):qax prog fr 102 [.d (.fl .f64 x_)] [] (fun v o new=>∃ r,Q_ r∧v = .d (.fl .f32 r)∧o = []∧new = []):=by
 refine qaj hτ func102 rfl (by simp) (by simp) ?_
 unfold qd5 at h
 refine qa6<|qa2<|qa0 hτ rfl rfl rfl<|qa4<|qa6<|qa2<|qa0 hτ rfl rfl rfl ?_
 refine awl_conv hτ h rfl rfl rfl fun x2 h=>?_
 refine qa0 hτ rfl rfl rfl<|qa4 ?_
 refine qa8 (wk [] (l:=[(2,.d (.fl .f32 x2))]) (objs:=[])) ?_
 refine qaq ?_
 exact rt0 rfl rfl ⟨_,h,rfl,rfl,rfl⟩
theorem qhw (n:Nat) (x_:Nat) {Q_:Nat→Prop} (h:qd5 n x_ Q_):qax prog false 102 [.d (.fl .f64 x_)] [] (fun v o new=>∃ r,Q_ r∧v = .d (.fl .f32 r)∧o = []∧new = []):=spec_l01Narrow_okP_fr0 false n x_ h
def qiw (n:Nat) (v35:Nat) (v36:Int):Option Cx :=
 (qhr n (qam .sub .f64 (4598175219545276416:Nat) v35)).bind fun x37 =>
 (qhr n v35).bind fun x38 =>
 if v36 = (1:Int) then
  (qbs n (qam .sub .f64 (0:Nat) x38)).bind fun x46 =>
  (qbs n x37).bind fun x47 =>
  some (Cx.mk x46 x47)
 else
  if v36 = (2:Int) then
   (qbs n (qam .sub .f64 (0:Nat) x37)).bind fun x49 =>
   (qbs n (qam .sub .f64 (0:Nat) x38)).bind fun x50 =>
   some (Cx.mk x49 x50)
  else
   if v36 = (3:Int) then
    (qbs n x38).bind fun x52 =>
    (qbs n (qam .sub .f64 (0:Nat) x37)).bind fun x53 =>
    some (Cx.mk x52 x53)
   else
    (qbs n x37).bind fun x54 =>
    (qbs n x38).bind fun x55 =>
    some (Cx.mk x54 x55)
def qff (n:Nat):Nat→Nat→Int→Option Cx
 | 0,_,_=>none
 | m61 + 1,v57,v58 =>
  if (fcmp .geq .f64 v57 (4598175219545276416:Nat)) = true then
   (qff n m61) (qam .sub .f64 v57 (4598175219545276416:Nat)) (w64 (v58 + (1:Int)))
  else
   qiw n v57 v58
def qgw (n:Nat) (v30:Nat):Option Cx :=
 qff n n v30 (0:Int)
def qiv (n:Nat) (turns_:Nat):Option Cx :=
 (f2i .f64 .i64 turns_).bind fun x28 =>
 if (fcmp .lss .f64 (qam .sub .f64 turns_ (FloatKind.nearest .f64 x28)) (0:Nat)) = true then
  qgw n (qam .add .f64 (qam .sub .f64 turns_ (FloatKind.nearest .f64 x28)) (4607182418800017408:Nat))
 else
  qgw n (qam .sub .f64 turns_ (FloatKind.nearest .f64 x28))
def qgx (n:Nat) (turns_:Nat) (v69:Bool):Option Cx :=
 if v69 = true then
  some (Cx.mk (1065353216:Nat) (0:Nat))
 else
  qiv n turns_
def qj4 (n:Nat) (turns_:Nat):Option Cx :=
 if (fcmp .neq .f64 (qam .sub .f64 turns_ turns_) (0:Nat)) = true then
  (qe5 n (2143289344:Int)).bind fun x24 =>
  (qe5 n (2143289344:Int)).bind fun x25 =>
  some (Cx.mk x24 x25)
 else
  if (fcmp .geq .f64 turns_ (4841369599423283200:Nat)) = true then
   qgx n turns_ true
  else
   qgx n turns_ (fcmp .leq .f64 turns_ (14064741636278059008:Nat))
theorem spec_l01Phasor_ok_fr0 (fr:Bool) (n:Nat) (turns_:Nat) {r:Cx} (h:qj4 n turns_ = some r):qax prog fr 88 [.d (.fl .f64 turns_)] [] (fun v o new=>v = (cxv r)∧o = []∧new = []):=by
 refine qaj hτ func88 rfl (by simp) (by simp) ?_
 unfold qj4 at h
 refine qa6<|qa2<|qa0 hτ rfl rfl rfl<|qa4<|qa6<|qa6<|qa2<|qa0 hτ rfl rfl rfl ?_
 refine qa0 hτ rfl rfl rfl<|qa0 hτ rfl rfl rfl<|qa0 hτ rfl rfl rfl<|qa4 ?_
 refine qaw rfl (fun hc23=>?_) (fun hc23=>?_)
 ·have h:=qcv h hc23
  refine qa6<|qa2 ?_
  refine qag h fun x24 hx24 h=>?_
  refine qac hτ false [] rfl rfl rfl (qai func100 rfl rfl) rfl rfl (by simp) ⟨trivial,trivial⟩ (by trivial) (qii n (2143289344:Int) hx24) ?_
  rintro r0 o0 n0 ⟨rfl,rfl,rfl⟩ -
  refine qag h fun x25 hx25 h=>?_
  refine qac hτ false [] rfl rfl rfl (qai func100 rfl rfl) rfl rfl (by simp) ⟨trivial,trivial⟩ (by trivial) (qii n (2143289344:Int) hx25) ?_
  rintro r0 o0 n0 ⟨rfl,rfl,rfl⟩ -
  refine qa0 hτ rfl rfl rfl<|qa0 hτ rfl rfl rfl<|qa4 ?_
  refine qa8 (wk [] (l:=[(2,.d (.cx .f32 x24 x25))]) (objs:=[])) ?_
  refine qaq ?_
  have hr:=Option.some.inj h
  subst hr
  exact rt0 rfl rfl ⟨rfl,rfl,rfl⟩
 ·have h:=qcu h hc23
  refine qb1 ?_
  refine qbn (ι:=Unit) (fun _=>St.of [(0,.d (.fl .f64 turns_))] [] f88.ntmps 0) (fun _=>qiv n turns_ = some r) ?_ (fun hk66=>?_)
  ·rintro ⟨⟩ h
   replace h:qiv n turns_ = some r:=h
   unfold qiv at h
   refine qa6<|qa2<|qa0 hτ rfl rfl rfl<|qa0 hτ rfl rfl rfl ?_
   refine qag h fun x28 hx28 h=>?_
   refine qxz rfl rfl (qyi hτ rfl rfl rfl rfl rfl rfl hx28) ?_
   refine qa0 hτ rfl rfl rfl<|qa0 hτ rfl rfl rfl<|qa0 hτ rfl rfl rfl<|qa4 ?_
   refine qbn (ι:=Nat) (fun v30=>St.of [(3,.d (.fl .f64 v30))] [] f88.ntmps 0) (fun v30=>qgw n v30 = some r) ?_ (fun hk64=>?_)
   ·rintro v30 h
    replace h:qgw n v30 = some r:=h
    unfold qgw at h
    refine qa6<|qa2<|qa0 hτ rfl rfl rfl<|qa4 ?_
    refine qbn (ι:=Nat × Int) (fun (v35,v36)=>St.of [(3,.d (.fl .f64 v35)),(4,iv v36)] [] f88.ntmps 0) (fun (v35,v36)=>qiw n v35 v36 = some r) ?_ (fun hk56=>?_)
    ·rintro ⟨v35,v36⟩ h
     replace h:qiw n v35 v36 = some r:=h
     unfold qiw at h
     refine qa6<|qa2<|qa0 hτ rfl rfl rfl<|qa0 hτ rfl rfl rfl ?_
     refine qag h fun x37 hx37 h=>?_
     refine qac hτ false [] rfl rfl rfl (qai func101 rfl rfl) rfl rfl (by simp) ⟨trivial,trivial⟩ (by trivial) (qm7 n (qam .sub .f64 (4598175219545276416:Nat) v35) hx37) ?_
     rintro r0 o0 n0 ⟨rfl,rfl,rfl⟩ -
     refine qa0 hτ rfl rfl rfl<|qa4<|qa6<|qa2<|qa0 hτ rfl rfl rfl ?_
     refine qag h fun x38 hx38 h=>?_
     refine qac hτ false [] rfl rfl rfl (qai func101 rfl rfl) rfl rfl (by simp) ⟨trivial,trivial⟩ (by trivial) (qm7 n v35 hx38) ?_
     rintro r0 o0 n0 ⟨rfl,rfl,rfl⟩ -
     refine qa0 hτ rfl rfl rfl<|qa4<|qa6<|qa6 ?_
     refine qa8 (wk [] (l:=[(4,iv v36),(5,.d (.fl .f64 x37)),(6,.d (.fl .f64 x38))]) (objs:=[])) ?_
     refine qa2<|qa0 hτ rfl rfl rfl<|qa4<|qb9<|qa6<|qa2 ?_
     refine qa0 hτ (v:=bv (decide (v36 = (1:Int)))) rfl rfl (qim _ _) ?_
     refine qa0 hτ rfl rfl rfl<|qa4 ?_
     refine qaw rfl (fun hc45=>?_) (fun hc45=>?_)
     ·have h:=if_t h hc45
      refine qa6<|qa2<|qa0 hτ rfl rfl rfl<|qa0 hτ rfl rfl rfl ?_
      refine qag h fun x46 hx46 h=>?_
      refine qac hτ false [] rfl rfl rfl (qai func102 rfl rfl) rfl rfl (by simp) ⟨trivial,trivial⟩ (by trivial) (qd7 n (qam .sub .f64 (0:Nat) x38) hx46) ?_
      rintro r0 o0 n0 ⟨rfl,rfl,rfl⟩ -
      refine qa0 hτ rfl rfl rfl ?_
      refine qag h fun x47 hx47 h=>?_
      refine qac hτ false [] rfl rfl rfl (qai func102 rfl rfl) rfl rfl (by simp) ⟨trivial,trivial⟩ (by trivial) (qd7 n x37 hx47) ?_
      rintro r0 o0 n0 ⟨rfl,rfl,rfl⟩ -
      refine qa0 hτ rfl rfl rfl<|qa0 hτ rfl rfl rfl<|qa4 ?_
      refine qa8 (wk [] (l:=[(2,.d (.cx .f32 x46 x47))]) (objs:=[])) ?_
      refine qaq ?_
      have hr:=Option.some.inj h
      subst hr
      exact rt0 rfl rfl ⟨rfl,rfl,rfl⟩
     ·have h:=if_f h hc45
      refine qa6<|qa2 ?_
      refine qa0 hτ (v:=bv (decide (v36 = (2:Int)))) rfl rfl (qim _ _) ?_
      refine qa0 hτ rfl rfl rfl<|qa4 ?_
      refine qaw rfl (fun hc48=>?_) (fun hc48=>?_)
      ·have h:=if_t h hc48
       refine qa6<|qa2<|qa0 hτ rfl rfl rfl<|qa0 hτ rfl rfl rfl ?_
       refine qag h fun x49 hx49 h=>?_
       refine qac hτ false [] rfl rfl rfl (qai func102 rfl rfl) rfl rfl (by simp) ⟨trivial,trivial⟩ (by trivial) (qd7 n (qam .sub .f64 (0:Nat) x37) hx49) ?_
       rintro r0 o0 n0 ⟨rfl,rfl,rfl⟩ -
       refine qa0 hτ rfl rfl rfl<|qa0 hτ rfl rfl rfl ?_
       refine qag h fun x50 hx50 h=>?_
       refine qac hτ false [] rfl rfl rfl (qai func102 rfl rfl) rfl rfl (by simp) ⟨trivial,trivial⟩ (by trivial) (qd7 n (qam .sub .f64 (0:Nat) x38) hx50) ?_
       rintro r0 o0 n0 ⟨rfl,rfl,rfl⟩ -
       refine qa0 hτ rfl rfl rfl ?_
       refine qar (wk [] (l:=[(57,.d (.cx .f32 x49 x50))]) (objs:=[])) ?_
       refine qa0 hτ rfl rfl rfl<|qa4 ?_
       refine qa8 (wk [] (l:=[(2,.d (.cx .f32 x49 x50))]) (objs:=[])) ?_
       refine qaq ?_
       have hr:=Option.some.inj h
       subst hr
       exact rt0 rfl rfl ⟨rfl,rfl,rfl⟩
      ·have h:=if_f h hc48
       refine qa6<|qa2 ?_
       refine qa0 hτ (v:=bv (decide (v36 = (3:Int)))) rfl rfl (qim _ _) ?_
       refine qa0 hτ rfl rfl rfl<|qa4 ?_
       refine qa8 (wk [] (l:=[(5,.d (.fl .f64 x37)),(6,.d (.fl .f64 x38)),(58,bv (decide (v36 = (3:Int))))]) (objs:=[])) ?_
       refine qaw rfl (fun hc51=>?_) (fun hc51=>?_)
       ·have h:=if_t h hc51
        refine qa6<|qa2<|qa0 hτ rfl rfl rfl ?_
        refine qag h fun x52 hx52 h=>?_
        refine qac hτ false [] rfl rfl rfl (qai func102 rfl rfl) rfl rfl (by simp) ⟨trivial,trivial⟩ (by trivial) (qd7 n x38 hx52) ?_
        rintro r0 o0 n0 ⟨rfl,rfl,rfl⟩ -
        refine qa0 hτ rfl rfl rfl<|qa0 hτ rfl rfl rfl ?_
        refine qag h fun x53 hx53 h=>?_
        refine qac hτ false [] rfl rfl rfl (qai func102 rfl rfl) rfl rfl (by simp) ⟨trivial,trivial⟩ (by trivial) (qd7 n (qam .sub .f64 (0:Nat) x37) hx53) ?_
        rintro r0 o0 n0 ⟨rfl,rfl,rfl⟩ -
        refine qa0 hτ rfl rfl rfl<|qa0 hτ rfl rfl rfl<|qa4 ?_
        refine qa8 (wk [] (l:=[(2,.d (.cx .f32 x52 x53))]) (objs:=[])) ?_
        refine qaq ?_
        have hr:=Option.some.inj h
        subst hr
        exact rt0 rfl rfl ⟨rfl,rfl,rfl⟩
       ·have h:=if_f h hc51
        refine qb1<|qa6<|qa2<|qa0 hτ rfl rfl rfl ?_
        refine qag h fun x54 hx54 h=>?_
        refine qac hτ false [] rfl rfl rfl (qai func102 rfl rfl) rfl rfl (by simp) ⟨trivial,trivial⟩ (by trivial) (qd7 n x37 hx54) ?_
        rintro r0 o0 n0 ⟨rfl,rfl,rfl⟩ -
        refine qa0 hτ rfl rfl rfl ?_
        refine qag h fun x55 hx55 h=>?_
        refine qac hτ false [] rfl rfl rfl (qai func102 rfl rfl) rfl rfl (by simp) ⟨trivial,trivial⟩ (by trivial) (qd7 n x38 hx55) ?_
        rintro r0 o0 n0 ⟨rfl,rfl,rfl⟩ -
        refine qa0 hτ rfl rfl rfl<|qa0 hτ rfl rfl rfl<|qa4 ?_
        refine qa8 (wk [] (l:=[(2,.d (.cx .f32 x54 x55))]) (objs:=[])) ?_
        refine qaq ?_
        have hr:=Option.some.inj h
        subst hr
        exact rt0 rfl rfl ⟨rfl,rfl,rfl⟩
    ·refine qa6<|qb9 ?_
     refine qev (ι:=Nat × Nat × Int) (fun (m61,v57,v58)=>St.of [(3,.d (.fl .f64 v57)),(4,iv v58)] [] f88.ntmps 0) (fun (m61,v57,v58)=>qff n m61 v57 v58 = some r) (fun x=>x.1) (n,v30,(0:Int)) h (wk [] (l:=[(3,.d (.fl .f64 v30)),(4,iv (0:Int))]) (objs:=[])) ?_
     rintro ⟨m61,v57,v58⟩ h
     replace h:qff n m61 v57 v58 = some r:=h
     rcases m61 with _ | m61
     ·rw [qff] at h;cases h
     rw [qff] at h
     refine qa6<|qa6<|qa2<|qa0 hτ rfl rfl rfl<|qa0 hτ rfl rfl rfl<|qa4 ?_
     refine qaw rfl (fun hc63=>?_) (fun hc63=>?_)
     ·have h:=qcv h hc63
      refine qb1<|qb9<|qa6<|qa2<|qa0 hτ rfl rfl rfl<|qa0 hτ rfl rfl rfl<|qa0 hτ rfl rfl rfl<|qa4 ?_
      refine qa2<|qa0 hτ rfl rfl rfl<|qa0 hτ rfl rfl rfl<|qa0 hτ rfl rfl rfl<|qa4 ?_
      exact ⟨(m61,(qam .sub .f64 v57 (4598175219545276416:Nat)),(w64 (v58 + (1:Int)))),h,Nat.lt_succ_self m61,(wk [] (l:=[(3,.d (.fl .f64 (qam .sub .f64 v57 (4598175219545276416:Nat)))),(4,iv (w64 (v58 + (1:Int))))]) (objs:=[]))⟩
     ·have h:=qcu h hc63
      refine qe4 ?_
      refine qa8 (wk [] (l:=[(3,.d (.fl .f64 v57)),(4,iv v58)]) (objs:=[])) ?_
      exact hk56 (v57,v58) h
   ·refine qa6<|qa6 ?_
    refine qa8 (wk [] (l:=[(3,.d (.fl .f64 (qam .sub .f64 turns_ (FloatKind.nearest .f64 x28))))]) (objs:=[])) ?_
    refine qa2<|qa0 hτ rfl rfl rfl<|qa0 hτ rfl rfl rfl<|qa4 ?_
    refine qaw rfl (fun hc65=>?_) (fun hc65=>?_)
    ·have h:=qcv h hc65
     refine qa2<|qa0 hτ rfl rfl rfl<|qa0 hτ rfl rfl rfl<|qa0 hτ rfl rfl rfl<|qa4 ?_
     refine qa8 (wk [] (l:=[(3,.d (.fl .f64 (qam .add .f64 (qam .sub .f64 turns_ (FloatKind.nearest .f64 x28)) (4607182418800017408:Nat))))]) (objs:=[])) ?_
     exact hk64 (qam .add .f64 (qam .sub .f64 turns_ (FloatKind.nearest .f64 x28)) (4607182418800017408:Nat)) h
    ·have h:=qcu h hc65
     refine qb1 ?_
     refine qa8 (wk [] (l:=[(3,.d (.fl .f64 (qam .sub .f64 turns_ (FloatKind.nearest .f64 x28))))]) (objs:=[])) ?_
     exact hk64 (qam .sub .f64 turns_ (FloatKind.nearest .f64 x28)) h
  ·refine qa6 ?_
   refine qbn (ι:=Bool) (fun v69=>St.of [(0,.d (.fl .f64 turns_)),(19,bv v69)] [] f88.ntmps 0) (fun v69=>qgx n turns_ v69 = some r) ?_ (fun hk71=>?_)
   ·rintro v69 h
    replace h:qgx n turns_ v69 = some r:=h
    unfold qgx at h
    refine qaw rfl (fun hc70=>?_) (fun hc70=>?_)
    ·have h:=qcv h hc70
     refine qa6<|qa2<|qa0 hτ rfl rfl rfl<|qa4 ?_
     refine qa8 (wk [] (l:=[(2,.d (.cx .f32 (1065353216:Nat) (0:Nat)))]) (objs:=[])) ?_
     refine qaq ?_
     have hr:=Option.some.inj h
     subst hr
     exact rt0 rfl rfl ⟨rfl,rfl,rfl⟩
    ·have h:=qcu h hc70
     refine qb1 ?_
     refine qa8 (wk [] (l:=[(0,.d (.fl .f64 turns_))]) (objs:=[])) ?_
     exact hk66 () h
   ·refine qa6<|qa2<|qa0 hτ rfl rfl rfl<|qa0 hτ rfl rfl rfl<|qa0 hτ rfl rfl rfl ?_
    refine qay 16 rfl (fun hb72=>?_) (fun hb72=>?_)
    ·have h:=qcv h hb72
     refine qa3 rfl rfl<|qa3 rfl rfl<|qa0 hτ rfl rfl rfl<|qa4 ?_
     refine qa8 (wk [] (l:=[(0,.d (.fl .f64 turns_)),(19,bv true)]) (objs:=[])) ?_
     exact hk71 true h
    ·have h:=qcu h hb72
     refine qa0 hτ rfl rfl rfl<|qa0 hτ rfl rfl rfl<|qa0 hτ rfl rfl rfl<|qa4 ?_
     refine qa8 (wk [] (l:=[(0,.d (.fl .f64 turns_)),(19,bv (fcmp .leq .f64 turns_ (14064741636278059008:Nat)))]) (objs:=[])) ?_
     exact hk71 (fcmp .leq .f64 turns_ (14064741636278059008:Nat)) h
theorem qmq (n:Nat) (turns_:Nat) {r:Cx} (h:qj4 n turns_ = some r):qax prog false 88 [.d (.fl .f64 turns_)] [] (fun v o new=>v = (cxv r)∧o = []∧new = []):=spec_l01Phasor_ok_fr0 false n turns_ h
def qd6 (n:Nat) (x_:Cx):Option Cx :=
 (qmu .f32 .f64 x_.re).bind fun x3 =>
 (qmu .f32 .f64 x_.im).bind fun x4 =>
 some (Cx.mk x3 x4)
theorem spec_l01Wide_ok_fr0 (fr:Bool) (n:Nat) (x_:Cx) {r:Cx} (h:qd6 n x_ = some r):qax prog fr 99 [cxv x_] [] (fun v o new=>v = .d (.cx .f64 r.re r.im)∧o = []∧new = []):=by
 refine qaj hτ func99 rfl (by simp) (by simp) ?_
 unfold qd6 at h
 refine qa6<|qa2<|qa0 hτ rfl rfl rfl<|qa4<|qa6<|qa2<|qa0 hτ rfl rfl rfl<|qa0 hτ rfl rfl rfl ?_
 refine qag h fun x3 hx3 h=>?_
 refine qa0 hτ (v:=.d (.fl .f64 x3)) rfl rfl (qog hx3) ?_
 refine qa0 hτ rfl rfl rfl<|qa0 hτ rfl rfl rfl ?_
 refine qag h fun x4 hx4 h=>?_
 refine qa0 hτ (v:=.d (.fl .f64 x4)) rfl rfl (qog hx4) ?_
 refine qa0 hτ rfl rfl rfl<|qa0 hτ rfl rfl rfl<|qa4 ?_
 refine qa8 (wk [] (l:=[(2,.d (.cx .f64 x3 x4))]) (objs:=[])) ?_
 refine qaq ?_
 have hr:=Option.some.inj h
 subst hr
 exact rt0 rfl rfl ⟨rfl,rfl,rfl⟩
theorem qij (n:Nat) (x_:Cx) {r:Cx} (h:qd6 n x_ = some r):qax prog false 99 [cxv x_] [] (fun v o new=>v = .d (.cx .f64 r.re r.im)∧o = []∧new = []):=spec_l01Wide_ok_fr0 false n x_ h
def qfg (n:Nat) (x_:Cx) (y_:Cx):Option Cx :=
 some (Cx.mk (qam .sub .f64 (qam .mul .f64 x_.re y_.re) (qam .mul .f64 x_.im y_.im)) (qam .add .f64 (qam .mul .f64 x_.re y_.im) (qam .mul .f64 x_.im y_.re)))
theorem spec_l01WideMul_ok_fr0 (fr:Bool) (n:Nat) (x_:Cx) (y_:Cx) {r:Cx} (h:qfg n x_ y_ = some r):qax prog fr 98 [.d (.cx .f64 x_.re x_.im),.d (.cx .f64 y_.re y_.im)] [] (fun v o new=>v = .d (.cx .f64 r.re r.im)∧o = []∧new = []):=by
 refine qaj hτ func98 rfl (by simp) (by simp) ?_
 unfold qfg at h
 refine qa6<|qa2<|qa0 hτ rfl rfl rfl<|qa4<|qa6<|qa2<|qa0 hτ rfl rfl rfl<|qa0 hτ rfl rfl rfl ?_
 refine qa0 hτ rfl rfl rfl<|qa0 hτ rfl rfl rfl<|qa0 hτ rfl rfl rfl<|qa0 hτ rfl rfl rfl<|qa0 hτ rfl rfl rfl<|qa0 hτ rfl rfl rfl<|qa0 hτ rfl rfl rfl<|qa0 hτ rfl rfl rfl ?_
 refine qa0 hτ rfl rfl rfl ?_
 refine qar (wk [] (l:=[(0,.d (.cx .f64 x_.re x_.im)),(1,.d (.cx .f64 y_.re y_.im)),(17,.d (.fl .f64 (qam .sub .f64 (qam .mul .f64 x_.re y_.re) (qam .mul .f64 x_.im y_.im))))]) (objs:=[])) ?_
 refine qa0 hτ rfl rfl rfl<|qa4<|qa6<|qa2<|qa0 hτ rfl rfl rfl<|qa0 hτ rfl rfl rfl<|qa0 hτ rfl rfl rfl<|qa0 hτ rfl rfl rfl ?_
 refine qa0 hτ rfl rfl rfl<|qa0 hτ rfl rfl rfl<|qa0 hτ rfl rfl rfl<|qa0 hτ rfl rfl rfl<|qa0 hτ rfl rfl rfl<|qa0 hτ rfl rfl rfl<|qa0 hτ rfl rfl rfl ?_
 refine qar (wk [] (l:=[(5,.d (.fl .f64 (qam .sub .f64 (qam .mul .f64 x_.re y_.re) (qam .mul .f64 x_.im y_.im)))),(28,.d (.fl .f64 (qam .add .f64 (qam .mul .f64 x_.re y_.im) (qam .mul .f64 x_.im y_.re))))]) (objs:=[])) ?_
 refine qa0 hτ rfl rfl rfl<|qa4<|qa6<|qa2<|qa0 hτ rfl rfl rfl<|qa0 hτ rfl rfl rfl<|qa0 hτ rfl rfl rfl<|qa0 hτ rfl rfl rfl ?_
 refine qa4 ?_
 refine qa8 (wk [] (l:=[(4,.d (.cx .f64 (qam .sub .f64 (qam .mul .f64 x_.re y_.re) (qam .mul .f64 x_.im y_.im)) (qam .add .f64 (qam .mul .f64 x_.re y_.im) (qam .mul .f64 x_.im y_.re))))]) (objs:=[])) ?_
 refine qaq ?_
 have hr:=Option.some.inj h
 subst hr
 exact rt0 rfl rfl ⟨rfl,rfl,rfl⟩
theorem qkz (n:Nat) (x_:Cx) (y_:Cx) {r:Cx} (h:qfg n x_ y_ = some r):qax prog false 98 [.d (.cx .f64 x_.re x_.im),.d (.cx .f64 y_.re y_.im)] [] (fun v o new=>v = .d (.cx .f64 r.re r.im)∧o = []∧new = []):=spec_l01WideMul_ok_fr0 false n x_ y_ h
def qjv (n:Nat) (x_:Cx):Option Cx :=
 (qbs n x_.re).bind fun x3 =>
 (qbs n x_.im).bind fun x4 =>
 some (Cx.mk x3 x4)
theorem spec_l01CNarrow_ok_fr0 (fr:Bool) (n:Nat) (x_:Cx) {r:Cx} (h:qjv n x_ = some r):qax prog fr 97 [.d (.cx .f64 x_.re x_.im)] [] (fun v o new=>v = (cxv r)∧o = []∧new = []):=by
 refine qaj hτ func97 rfl (by simp) (by simp) ?_
 unfold qjv at h
 refine qa6<|qa2<|qa0 hτ rfl rfl rfl<|qa4<|qa6<|qa2<|qa0 hτ rfl rfl rfl<|qa0 hτ rfl rfl rfl ?_
 refine qag h fun x3 hx3 h=>?_
 refine qac hτ false [] rfl rfl rfl (qai func102 rfl rfl) rfl rfl (by simp) ⟨trivial,trivial⟩ (by trivial) (qd7 n x_.re hx3) ?_
 rintro r0 o0 n0 ⟨rfl,rfl,rfl⟩ -
 refine qa0 hτ rfl rfl rfl<|qa0 hτ rfl rfl rfl ?_
 refine qag h fun x4 hx4 h=>?_
 refine qac hτ false [] rfl rfl rfl (qai func102 rfl rfl) rfl rfl (by simp) ⟨trivial,trivial⟩ (by trivial) (qd7 n x_.im hx4) ?_
 rintro r0 o0 n0 ⟨rfl,rfl,rfl⟩ -
 refine qa0 hτ rfl rfl rfl<|qa0 hτ rfl rfl rfl<|qa4 ?_
 refine qa8 (wk [] (l:=[(2,.d (.cx .f32 x3 x4))]) (objs:=[])) ?_
 refine qaq ?_
 have hr:=Option.some.inj h
 subst hr
 exact rt0 rfl rfl ⟨rfl,rfl,rfl⟩
theorem spec_l01CNarrow_ok (n:Nat) (x_:Cx) {r:Cx} (h:qjv n x_ = some r):qax prog false 97 [.d (.cx .f64 x_.re x_.im)] [] (fun v o new=>v = (cxv r)∧o = []∧new = []):=spec_l01CNarrow_ok_fr0 false n x_ h
def qhq (n:Nat) (x_:Cx) (Q_:Cx→Prop):Prop :=
 qd5 n x_.re fun x3 =>
 qd5 n x_.im fun x4 =>
 Q_ ((Cx.mk x3 x4))
theorem spec_l01CNarrow_okP_fr0 (fr:Bool) (n:Nat) (x_:Cx) {Q_:Cx→Prop} (h:qhq n x_ Q_):qax prog fr 97 [.d (.cx .f64 x_.re x_.im)] [] (fun v o new=>∃ r,Q_ r∧v = (cxv r)∧o = []∧new = []):=by
 refine qaj hτ func97 rfl (by simp) (by simp) ?_
 unfold qhq at h
 refine qa6<|qa2<|qa0 hτ rfl rfl rfl<|qa4<|qa6<|qa2<|qa0 hτ rfl rfl rfl<|qa0 hτ rfl rfl rfl ?_
 refine qac hτ false [] rfl rfl rfl (qai func102 rfl rfl) rfl rfl (by simp) ⟨trivial,trivial⟩ (by trivial) (qhw n x_.re h) ?_
 rintro r0 o0 n0 ⟨x3,h,rfl,rfl,rfl⟩ -
 refine qa0 hτ rfl rfl rfl<|qa0 hτ rfl rfl rfl ?_
 refine qac hτ false [] rfl rfl rfl (qai func102 rfl rfl) rfl rfl (by simp) ⟨trivial,trivial⟩ (by trivial) (qhw n x_.im h) ?_
 rintro r0 o0 n0 ⟨x4,h,rfl,rfl,rfl⟩ -
 refine qa0 hτ rfl rfl rfl<|qa0 hτ rfl rfl rfl<|qa4 ?_
 refine qa8 (wk [] (l:=[(2,.d (.cx .f32 x3 x4))]) (objs:=[])) ?_
 refine qaq ?_
 exact rt0 rfl rfl ⟨_,h,rfl,rfl,rfl⟩
theorem spec_l01CNarrow_okP (n:Nat) (x_:Cx) {Q_:Cx→Prop} (h:qhq n x_ Q_):qax prog false 97 [.d (.cx .f64 x_.re x_.im)] [] (fun v o new=>∃ r,Q_ r∧v = (cxv r)∧o = []∧new = []):=spec_l01CNarrow_okP_fr0 false n x_ h
def qez (n:Nat) (x_:Cx) (y_:Cx):Option Cx :=
 (qd6 n x_).bind fun x5 =>
 (qd6 n y_).bind fun x6 =>
 (qfg n x5 x6).bind fun x7 =>
 (qjv n x7).bind fun x8 =>
 some x8
theorem spec_l01Mul_ok_fr0 (fr:Bool) (n:Nat) (x_:Cx) (y_:Cx) {r:Cx} (h:qez n x_ y_ = some r):qax prog fr 87 [cxv x_,cxv y_] [] (fun v o new=>v = (cxv r)∧o = []∧new = []):=by
 refine qaj hτ func87 rfl (by simp) (by simp) ?_
 unfold qez at h
 refine qa6<|qa2<|qa0 hτ rfl rfl rfl<|qa4<|qa6<|qa2<|qa0 hτ rfl rfl rfl ?_
 refine qag h fun x5 hx5 h=>?_
 refine qac hτ false [] rfl rfl rfl (qai func99 rfl rfl) rfl rfl (by simp) ⟨trivial,trivial⟩ (by trivial) (qij n x_ hx5) ?_
 rintro r0 o0 n0 ⟨rfl,rfl,rfl⟩ -
 refine qa0 hτ rfl rfl rfl ?_
 refine qag h fun x6 hx6 h=>?_
 refine qac hτ false [] rfl rfl rfl (qai func99 rfl rfl) rfl rfl (by simp) ⟨trivial,trivial⟩ (by trivial) (qij n y_ hx6) ?_
 rintro r0 o0 n0 ⟨rfl,rfl,rfl⟩ -
 refine qag h fun x7 hx7 h=>?_
 refine qac hτ false [] rfl rfl rfl (qai func98 rfl rfl) rfl rfl (by simp) ⟨trivial,trivial,trivial⟩ (by trivial) (qkz n x5 x6 hx7) ?_
 rintro r0 o0 n0 ⟨rfl,rfl,rfl⟩ -
 refine qag h fun x8 hx8 h=>?_
 refine qac hτ false [] rfl rfl rfl (qai func97 rfl rfl) rfl rfl (by simp) ⟨trivial,trivial⟩ (by trivial) (spec_l01CNarrow_ok n x7 hx8) ?_
 rintro r0 o0 n0 ⟨rfl,rfl,rfl⟩ -
 refine qa0 hτ rfl rfl rfl<|qa4 ?_
 refine qa8 (wk [] (l:=[(4,cxv x8)]) (objs:=[])) ?_
 refine qaq ?_
 have hr:=Option.some.inj h
 subst hr
 exact rt0 rfl rfl ⟨rfl,rfl,rfl⟩
theorem qo4 (n:Nat) (x_:Cx) (y_:Cx) {r:Cx} (h:qez n x_ y_ = some r):qax prog false 87 [cxv x_,cxv y_] [] (fun v o new=>v = (cxv r)∧o = []∧new = []):=spec_l01Mul_ok_fr0 false n x_ y_ h
def qe6 (n:Nat) (x_:Cx) (y_:Cx) (Q_:Cx→Prop):Prop :=
 bndP (qd6 n x_) fun x5 =>
 bndP (qd6 n y_) fun x6 =>
 bndP (qfg n x5 x6) fun x7 =>
 qhq n x7 fun x8 =>
 Q_ (x8)
theorem spec_l01Mul_okP_fr0 (fr:Bool) (n:Nat) (x_:Cx) (y_:Cx) {Q_:Cx→Prop} (h:qe6 n x_ y_ Q_):qax prog fr 87 [cxv x_,cxv y_] [] (fun v o new=>∃ r,Q_ r∧v = (cxv r)∧o = []∧new = []):=by
 refine qaj hτ func87 rfl (by simp) (by simp) ?_
 unfold qe6 at h
 refine qa6<|qa2<|qa0 hτ rfl rfl rfl<|qa4<|qa6<|qa2<|qa0 hτ rfl rfl rfl ?_
 refine qbf h fun x5 hx5 h=>?_
 refine qac hτ false [] rfl rfl rfl (qai func99 rfl rfl) rfl rfl (by simp) ⟨trivial,trivial⟩ (by trivial) (qij n x_ hx5) ?_
 rintro r0 o0 n0 ⟨rfl,rfl,rfl⟩ -
 refine qa0 hτ rfl rfl rfl ?_
 refine qbf h fun x6 hx6 h=>?_
 refine qac hτ false [] rfl rfl rfl (qai func99 rfl rfl) rfl rfl (by simp) ⟨trivial,trivial⟩ (by trivial) (qij n y_ hx6) ?_
 rintro r0 o0 n0 ⟨rfl,rfl,rfl⟩ -
 refine qbf h fun x7 hx7 h=>?_
 refine qac hτ false [] rfl rfl rfl (qai func98 rfl rfl) rfl rfl (by simp) ⟨trivial,trivial,trivial⟩ (by trivial) (qkz n x5 x6 hx7) ?_
 rintro r0 o0 n0 ⟨rfl,rfl,rfl⟩ -
 refine qac hτ false [] rfl rfl rfl (qai func97 rfl rfl) rfl rfl (by simp) ⟨trivial,trivial⟩ (by trivial) (spec_l01CNarrow_okP n x7 h) ?_
 rintro r0 o0 n0 ⟨x8,h,rfl,rfl,rfl⟩ -
 refine qa0 hτ rfl rfl rfl<|qa4 ?_
 refine qa8 (wk [] (l:=[(4,cxv x8)]) (objs:=[])) ?_
 refine qaq ?_
 exact rt0 rfl rfl ⟨_,h,rfl,rfl,rfl⟩
theorem qf2 (n:Nat) (x_:Cx) (y_:Cx) {Q_:Cx→Prop} (h:qe6 n x_ y_ Q_):qax prog false 87 [cxv x_,cxv y_] [] (fun v o new=>∃ r,Q_ r∧v = (cxv r)∧o = []∧new = []):=spec_l01Mul_okP_fr0 false n x_ y_ h
def qcp (n:Nat) (x_:Cx):Option qaa :=
 (qj4 n (fneg .f64 (4599676419421066581:Nat))).bind fun x5 =>
 (qez n x_ x5).bind fun x6 =>
 (qj4 n (4599676419421066581:Nat)).bind fun x7 =>
 (qez n x_ x7).bind fun x8 =>
 some (qaa.mk x_ x6 x8)
theorem spec_l02Even_ok_fr0 (fr:Bool) (n:Nat) (x_:Cx) {r:qaa} (h:qcp n x_ = some r):qax prog fr 76 [cxv x_] [] (fun v o new=>v = .agg [cxv r.A,cxv r.B,cxv r.C]∧o = []∧new = []):=by
 refine qaj hτ func76 rfl (by simp) (by simp) ?_
 unfold qcp at h
 refine qa6<|qa2<|qaf hτ rfl rfl rfl<|qa4<|qa6<|qa2<|qa0 hτ rfl rfl rfl<|qa4 ?_
 refine qa6<|qa2<|qa0 hτ rfl rfl rfl<|qa0 hτ rfl rfl rfl<|qa0 hτ rfl rfl rfl<|qa0 hτ rfl rfl rfl ?_
 refine qag h fun x5 hx5 h=>?_
 refine qac hτ false [] rfl rfl rfl (qai func88 rfl rfl) rfl rfl (by simp) ⟨trivial,trivial⟩ (by trivial) (qmq n (fneg .f64 (4599676419421066581:Nat)) hx5) ?_
 rintro r0 o0 n0 ⟨rfl,rfl,rfl⟩ -
 refine qag h fun x6 hx6 h=>?_
 refine qac hτ false [] rfl rfl rfl (qai func87 rfl rfl) rfl rfl (by simp) ⟨trivial,trivial,trivial⟩ (by trivial) (qo4 n x_ x5 hx6) ?_
 rintro r0 o0 n0 ⟨rfl,rfl,rfl⟩ -
 refine qa0 hτ rfl rfl rfl<|qa0 hτ rfl rfl rfl ?_
 refine qag h fun x7 hx7 h=>?_
 refine qac hτ false [] rfl rfl rfl (qai func88 rfl rfl) rfl rfl (by simp) ⟨trivial,trivial⟩ (by trivial) (qmq n (4599676419421066581:Nat) hx7) ?_
 rintro r0 o0 n0 ⟨rfl,rfl,rfl⟩ -
 refine qag h fun x8 hx8 h=>?_
 refine qac hτ false [] rfl rfl rfl (qai func87 rfl rfl) rfl rfl (by simp) ⟨trivial,trivial,trivial⟩ (by trivial) (qo4 n x_ x7 hx8) ?_
 rintro r0 o0 n0 ⟨rfl,rfl,rfl⟩ -
 refine qar (wk [0] (l:=[(2,.ptr 0 0),(4,cxv x_),(9,cxv x6),(13,cxv x8)]) (objs:=[.box [.d (.cx .f32 (0:Nat) (0:Nat)),.d (.cx .f32 (0:Nat) (0:Nat)),.d (.cx .f32 (0:Nat) (0:Nat))]])) ?_
 refine qa0 hτ rfl rfl rfl<|qaf hτ rfl rfl rfl<|qa4 ?_
 refine qa8 (wk [0] (l:=[(2,.ptr 0 0)]) (objs:=[.box [cxv x_,cxv x6,cxv x8]])) ?_
 refine qaq ?_
 have hr:=Option.some.inj h
 subst hr
 exact rt0 rfl rfl ⟨rfl,rfl,rfl⟩
theorem spec_l02Even_ok (n:Nat) (x_:Cx) {r:qaa} (h:qcp n x_ = some r):qax prog false 76 [cxv x_] [] (fun v o new=>v = .agg [cxv r.A,cxv r.B,cxv r.C]∧o = []∧new = []):=spec_l02Even_ok_fr0 false n x_ h
def qbq (n:Nat) (s_:qao) (n_:Int):Option (Bool × qao) :=
 (qat n s_ n_).bind fun x2 =>
 some ((decide (x2.1 = (0:Int))),x2.2)
theorem qe2 (n:Nat) (s_:qao) (n_:Int) {r:Bool × qao} (h:qbq n s_ n_ = some r):qax prog false 62 [.ptr 0 0,iv n_] [.box [sv qal s_.code,iv s_.at_,.d (.int .u64 s_.seed)]] (fun v o new=>v = (bv r.1)∧o = [.box [sv qal r.2.code,iv r.2.at_,.d (.int .u64 r.2.seed)]]∧new = []):=by
 refine qaj hτ func62 rfl (by simp) (by simp) ?_
 unfold qbq at h
 refine qa6<|qa2<|qa0 hτ rfl rfl rfl<|qa4<|qa6<|qa2<|qa0 hτ rfl rfl rfl<|qa0 hτ rfl rfl rfl ?_
 refine qag h fun x2 hx2 h=>?_
 refine qac hτ false [0] rfl rfl rfl (qai func36 rfl rfl) rfl rfl (by simp) ⟨trivial,trivial,trivial⟩ (by trivial) (qb2 n s_ n_ hx2) ?_
 rintro r0 o0 n0 ⟨rfl,rfl,rfl⟩ -
 refine qa0 hτ (v:=bv (decide (x2.1 = (0:Int)))) rfl rfl (qim _ _) ?_
 refine qa0 hτ rfl rfl rfl<|qa4 ?_
 refine qa8 (wk [0] (l:=[(4,bv (decide (x2.1 = (0:Int))))]) (objs:=[.box [sv qal x2.2.code,iv x2.2.at_,.d (.int .u64 x2.2.seed)]])) ?_
 refine qaq ?_
 have hr:=Option.some.inj h
 subst hr
 exact qb0 (.inr rfl) [] (objs':=[.box [sv qal x2.2.code,iv x2.2.at_,.d (.int .u64 x2.2.seed)]]) (new:=[]) rfl (by simp) (by simp) rfl (by trivial) rfl rfl (by trivial) (fun h=>nomatch h) ⟨rfl,rfl,rfl⟩
def qfe (n:Nat) (s_:qao):Option (Nat × qao) :=
 (qat n s_ (129:Int)).bind fun x3 =>
 (qbq n x3.2 (4:Int)).bind fun x5 =>
 if x5.1 = true then
  some ((qam .quo .f32 (FloatKind.nearest .f32 (w64 (x3.1 - (64:Int)))) (1088421888:Nat)),x5.2)
 else
  some ((qam .quo .f32 (FloatKind.nearest .f32 (w64 (x3.1 - (64:Int)))) (1098907648:Nat)),x5.2)
theorem qlo (n:Nat) (s_:qao) {r:Nat × qao} (h:qfe n s_ = some r):qax prog false 107 [.ptr 0 0] [.box [sv qal s_.code,iv s_.at_,.d (.int .u64 s_.seed)]] (fun v o new=>v = .d (.fl .f32 r.1)∧o = [.box [sv qal r.2.code,iv r.2.at_,.d (.int .u64 r.2.seed)]]∧new = []):=by
 refine qaj hτ func107 rfl (by simp) (by simp) ?_
 unfold qfe at h
 refine qa6<|qa2<|qa0 hτ rfl rfl rfl<|qa4<|qa6<|qa2<|qa0 hτ rfl rfl rfl ?_
 refine qag h fun x3 hx3 h=>?_
 refine qac hτ false [0] rfl rfl rfl (qai func36 rfl rfl) rfl rfl (by simp) ⟨trivial,trivial,trivial⟩ (by trivial) (qb2 n s_ (129:Int) hx3) ?_
 rintro r0 o0 n0 ⟨rfl,rfl,rfl⟩ -
 refine qa0 hτ rfl rfl rfl<|qa0 hτ rfl rfl rfl<|qa4<|qa6<|qa6<|qa2<|qa0 hτ rfl rfl rfl ?_
 refine qag h fun x5 hx5 h=>?_
 refine qac hτ false [0] rfl rfl rfl (qai func62 rfl rfl) rfl rfl (by simp) ⟨trivial,trivial,trivial⟩ (by trivial) (qe2 n x3.2 (4:Int) hx5) ?_
 rintro r0 o0 n0 ⟨rfl,rfl,rfl⟩ -
 refine qa4 ?_
 refine qa8 (wk [0] (l:=[(3,iv (w64 (x3.1 - (64:Int)))),(8,bv x5.1)]) (objs:=[.box [sv qal x5.2.code,iv x5.2.at_,.d (.int .u64 x5.2.seed)]])) ?_
 refine qaw rfl (fun hc6=>?_) (fun hc6=>?_)
 ·have h:=qcv h hc6
  refine qa6<|qa2<|qa0 hτ rfl rfl rfl<|qa0 hτ rfl rfl rfl<|qa0 hτ rfl rfl rfl<|qa0 hτ rfl rfl rfl<|qa4 ?_
  refine qa8 (wk [0] (l:=[(2,.d (.fl .f32 (qam .quo .f32 (FloatKind.nearest .f32 (w64 (x3.1 - (64:Int)))) (1088421888:Nat))))]) (objs:=[.box [sv qal x5.2.code,iv x5.2.at_,.d (.int .u64 x5.2.seed)]])) ?_
  refine qaq ?_
  have hr:=Option.some.inj h
  subst hr
  exact qb0 (.inr rfl) [] (objs':=[.box [sv qal x5.2.code,iv x5.2.at_,.d (.int .u64 x5.2.seed)]]) (new:=[]) rfl (by simp) (by simp) rfl (by trivial) rfl rfl (by trivial) (fun h=>nomatch h) ⟨rfl,rfl,rfl⟩
 ·have h:=qcu h hc6
  refine qb1<|qa6<|qa2<|qa0 hτ rfl rfl rfl<|qa0 hτ rfl rfl rfl<|qa0 hτ rfl rfl rfl<|qa0 hτ rfl rfl rfl<|qa4 ?_
  refine qa8 (wk [0] (l:=[(2,.d (.fl .f32 (qam .quo .f32 (FloatKind.nearest .f32 (w64 (x3.1 - (64:Int)))) (1098907648:Nat))))]) (objs:=[.box [sv qal x5.2.code,iv x5.2.at_,.d (.int .u64 x5.2.seed)]])) ?_
  refine qaq ?_
  have hr:=Option.some.inj h
  subst hr
  exact qb0 (.inr rfl) [] (objs':=[.box [sv qal x5.2.code,iv x5.2.at_,.d (.int .u64 x5.2.seed)]]) (new:=[]) rfl (by simp) (by simp) rfl (by trivial) rfl rfl (by trivial) (fun h=>nomatch h) ⟨rfl,rfl,rfl⟩
def qfc (n:Nat) (s_:qao) (list_:List Int):Option (Int × qao) :=
 (qat n s_ (list_.length:Int)).bind fun x3 =>
 (getI list_ x3.1).bind fun x4 =>
 some (x4,x3.2)
theorem qlm (n:Nat) (s_:qao) (list_:List Int) {r:Int × qao} (h:qfc n s_ list_ = some r):qax prog false 108 [.ptr 0 0,sv qmt list_] [.box [sv qal s_.code,iv s_.at_,.d (.int .u64 s_.seed)]] (fun v o new=>v = (iv r.1)∧o = [.box [sv qal r.2.code,iv r.2.at_,.d (.int .u64 r.2.seed)]]∧new = []):=by
 refine qaj hτ func108 rfl (by simp) (by simp) ?_
 unfold qfc at h
 refine qa6<|qa2<|qa0 hτ rfl rfl rfl<|qa4<|qa6<|qa2<|qa0 hτ rfl rfl rfl<|qa0 hτ rfl rfl rfl ?_
 refine qa0 hτ rfl rfl rfl ?_
 refine qa0 hτ (v:=iv (list_.length:Int)) rfl rfl (Eq.trans rfl (qf1 (f:=qmt) list_)) ?_
 refine qag h fun x3 hx3 h=>?_
 refine qac hτ false [0] rfl rfl rfl (qai func36 rfl rfl) rfl rfl (by simp) ⟨trivial,trivial,trivial⟩ (by trivial) (qb2 n s_ (list_.length:Int) hx3) ?_
 rintro r0 o0 n0 ⟨rfl,rfl,rfl⟩ -
 refine qag h fun x4 hx4 h=>?_
 refine qgh hτ rfl rfl rfl (qcw hx4).1 (qe7 hx4) rfl ?_
 refine qa0 hτ rfl rfl rfl<|qa0 hτ rfl rfl rfl<|qa4 ?_
 refine qa8 (wk [0] (l:=[(4,iv x4)]) (objs:=[.box [sv qal x3.2.code,iv x3.2.at_,.d (.int .u64 x3.2.seed)]])) ?_
 refine qaq ?_
 have hr:=Option.some.inj h
 subst hr
 exact qb0 (.inr rfl) [] (objs':=[.box [sv qal x3.2.code,iv x3.2.at_,.d (.int .u64 x3.2.seed)]]) (new:=[]) rfl (by simp) (by simp) rfl (by trivial) rfl rfl (by trivial) (fun h=>nomatch h) ⟨rfl,rfl,rfl⟩
def qfd (n:Nat) (s_:qao):Option (Nat × qao) :=
 (qbq n s_ (12:Int)).bind fun x16 =>
 if x16.1 = true then
  (qat n x16.2 (4:Int)).bind fun x27 =>
  if x27.1 = (0:Int) then
   (qfc n x27.2 [(0:Int),(2147483648:Int),(2139095040:Int),(4286578688:Int),(2143289344:Int),(1:Int),(2139095039:Int),(8388608:Int),(8388607:Int),(2147483649:Int)]).bind fun x29 =>
   (qe5 n x29.1).bind fun x30 =>
   some (x30,x29.2)
  else
   if x27.1 = (1:Int) then
    (qat n x27.2 (65536:Int)).bind fun x32 =>
    (qat n x32.2 (65536:Int)).bind fun x33 =>
    (qe5 n (w64 ((w64 (x32.1 * (65536:Int))) + x33.1))).bind fun x34 =>
    some (x34,x33.2)
   else
    if x27.1 = (2:Int) then
     (qat n x27.2 (65536:Int)).bind fun x36 =>
     (qe5 n (w64 (x36.1 * (65536:Int)))).bind fun x37 =>
     some (x37,x36.2)
    else
     (qfe n x27.2).bind fun x38 =>
     (qfc n x38.2 [(8388608:Int),(2130706432:Int),(1610612736:Int),(536870912:Int)]).bind fun x39 =>
     (qe5 n x39.1).bind fun x40 =>
     some ((qam .mul .f32 x38.1 x40),x39.2)
 else
  (qfe n x16.2).bind fun x18 =>
  some (x18.1,x18.2)
theorem qln (n:Nat) (s_:qao) {r:Nat × qao} (h:qfd n s_ = some r):qax prog false 95 [.ptr 0 0] [.box [sv qal s_.code,iv s_.at_,.d (.int .u64 s_.seed)]] (fun v o new=>v = .d (.fl .f32 r.1)∧o = [.box [sv qal r.2.code,iv r.2.at_,.d (.int .u64 r.2.seed)]]∧new = []):=by
 refine qaj hτ func95 rfl (by simp) (by simp) ?_
 unfold qfd at h
 refine qa6<|qa2<|qa0 hτ rfl rfl rfl<|qa4<|qa6<|qa6<|qa2<|qa0 hτ rfl rfl rfl ?_
 refine qag h fun x16 hx16 h=>?_
 refine qac hτ false [0] rfl rfl rfl (qai func62 rfl rfl) rfl rfl (by simp) ⟨trivial,trivial,trivial⟩ (by trivial) (qe2 n s_ (12:Int) hx16) ?_
 rintro r0 o0 n0 ⟨rfl,rfl,rfl⟩ -
 refine qa0 hτ rfl rfl rfl<|qa4 ?_
 refine qaw rfl (fun hc17=>?_) (fun hc17=>?_)
 ·have hc17:=qi4 hc17
  have h:=qcu h hc17
  refine qa6<|qa2<|qa0 hτ rfl rfl rfl ?_
  refine qag h fun x18 hx18 h=>?_
  refine qac hτ false [0] rfl rfl rfl (qai func107 rfl rfl) rfl rfl (by simp) ⟨trivial,trivial⟩ (by trivial) (qlo n x16.2 hx18) ?_
  rintro r0 o0 n0 ⟨rfl,rfl,rfl⟩ -
  refine qa0 hτ rfl rfl rfl<|qa4 ?_
  refine qa8 (wk [0] (l:=[(2,.d (.fl .f32 x18.1))]) (objs:=[.box [sv qal x18.2.code,iv x18.2.at_,.d (.int .u64 x18.2.seed)]])) ?_
  refine qaq ?_
  have hr:=Option.some.inj h
  subst hr
  exact qb0 (.inr rfl) [] (objs':=[.box [sv qal x18.2.code,iv x18.2.at_,.d (.int .u64 x18.2.seed)]]) (new:=[]) rfl (by simp) (by simp) rfl (by trivial) rfl rfl (by trivial) (fun h=>nomatch h) ⟨rfl,rfl,rfl⟩
 ·have hc17:=qi3 hc17
  have h:=qcv h hc17
  refine qb1<|qa6<|qa6<|qa2<|qa0 hτ rfl rfl rfl ?_
  refine qag h fun x27 hx27 h=>?_
  refine qac hτ false [0] rfl rfl rfl (qai func36 rfl rfl) rfl rfl (by simp) ⟨trivial,trivial,trivial⟩ (by trivial) (qb2 n x16.2 (4:Int) hx27) ?_
  rintro r0 o0 n0 ⟨rfl,rfl,rfl⟩ -
  refine qa4<|qb9<|qa6 ?_
  refine qa8 (wk [0] (l:=[(0,.ptr 0 0),(10,iv x27.1)]) (objs:=[.box [sv qal x27.2.code,iv x27.2.at_,.d (.int .u64 x27.2.seed)]])) ?_
  refine qa2 ?_
  refine qa0 hτ (v:=bv (decide (x27.1 = (0:Int)))) rfl rfl (qim _ _) ?_
  refine qa0 hτ rfl rfl rfl<|qa4 ?_
  refine qaw rfl (fun hc28=>?_) (fun hc28=>?_)
  ·have h:=if_t h hc28
   refine qa6<|qa2<|qa0 hτ rfl rfl rfl<|qaf hτ rfl rfl rfl ?_
   refine qar (qbk [0] (l:=[(13,.ptr 0 0),(14,.d (.sl false ([(0:Int),(2147483648:Int),(2139095040:Int),(4286578688:Int),(2143289344:Int),(1:Int),(2139095039:Int),(8388608:Int),(8388607:Int),(2147483649:Int)].map qmt)))]) (objs:=[.box [sv qal x27.2.code,iv x27.2.at_,.d (.int .u64 x27.2.seed)]]) rfl (by simp) rfl (by trivial) ⟨rfl,trivial,(qm8 (f:=qmt) (j:=1) (sz:=1) [(0:Int),(2147483648:Int),(2139095040:Int),(4286578688:Int),(2143289344:Int),(1:Int),(2139095039:Int),(8388608:Int),(8388607:Int),(2147483649:Int)] rfl rfl rfl),(qld (f:=qmt) (j:=1) (sz:=1) [(0:Int),(2147483648:Int),(2139095040:Int),(4286578688:Int),(2143289344:Int),(1:Int),(2139095039:Int),(8388608:Int),(8388607:Int),(2147483649:Int)] rfl rfl rfl),trivial⟩) ?_
   refine qag h fun x29 hx29 h=>?_
   refine qac hτ false [0] rfl rfl rfl (qai func108 rfl rfl) rfl rfl (by simp) ⟨trivial,trivial,trivial⟩ (by trivial) (qlm n x27.2 [(0:Int),(2147483648:Int),(2139095040:Int),(4286578688:Int),(2143289344:Int),(1:Int),(2139095039:Int),(8388608:Int),(8388607:Int),(2147483649:Int)] hx29) ?_
   rintro r0 o0 n0 ⟨rfl,rfl,rfl⟩ -
   refine qag h fun x30 hx30 h=>?_
   refine qac hτ false [] rfl rfl rfl (qai func100 rfl rfl) rfl rfl (by simp) ⟨trivial,trivial⟩ (by trivial) (qii n x29.1 hx30) ?_
   rintro r0 o0 n0 ⟨rfl,rfl,rfl⟩ -
   refine qa0 hτ rfl rfl rfl<|qa4 ?_
   refine qa8 (wk [0] (l:=[(2,.d (.fl .f32 x30))]) (objs:=[.box [sv qal x29.2.code,iv x29.2.at_,.d (.int .u64 x29.2.seed)]])) ?_
   refine qaq ?_
   have hr:=Option.some.inj h
   subst hr
   exact qb0 (.inr rfl) [] (objs':=[.box [sv qal x29.2.code,iv x29.2.at_,.d (.int .u64 x29.2.seed)]]) (new:=[]) rfl (by simp) (by simp) rfl (by trivial) rfl rfl (by trivial) (fun h=>nomatch h) ⟨rfl,rfl,rfl⟩
  ·have h:=if_f h hc28
   refine qa6<|qa2 ?_
   refine qa0 hτ (v:=bv (decide (x27.1 = (1:Int)))) rfl rfl (qim _ _) ?_
   refine qa0 hτ rfl rfl rfl<|qa4 ?_
   refine qaw rfl (fun hc31=>?_) (fun hc31=>?_)
   ·have h:=if_t h hc31
    refine qa6<|qa2<|qa0 hτ rfl rfl rfl ?_
    refine qag h fun x32 hx32 h=>?_
    refine qac hτ false [0] rfl rfl rfl (qai func36 rfl rfl) rfl rfl (by simp) ⟨trivial,trivial,trivial⟩ (by trivial) (qb2 n x27.2 (65536:Int) hx32) ?_
    rintro r0 o0 n0 ⟨rfl,rfl,rfl⟩ -
    refine qa0 hτ rfl rfl rfl<|qa0 hτ rfl rfl rfl<|qa4<|qa6 ?_
    refine qa8 (wk [0] (l:=[(0,.ptr 0 0),(3,iv (w64 (x32.1 * (65536:Int))))]) (objs:=[.box [sv qal x32.2.code,iv x32.2.at_,.d (.int .u64 x32.2.seed)]])) ?_
    refine qa2<|qa0 hτ rfl rfl rfl<|qa0 hτ rfl rfl rfl ?_
    refine qag h fun x33 hx33 h=>?_
    refine qac hτ false [0] rfl rfl rfl (qai func36 rfl rfl) rfl rfl (by simp) ⟨trivial,trivial,trivial⟩ (by trivial) (qb2 n x32.2 (65536:Int) hx33) ?_
    rintro r0 o0 n0 ⟨rfl,rfl,rfl⟩ -
    refine qa0 hτ rfl rfl rfl ?_
    refine qag h fun x34 hx34 h=>?_
    refine qac hτ false [] rfl rfl rfl (qai func100 rfl rfl) rfl rfl (by simp) ⟨trivial,trivial⟩ (by trivial) (qii n (w64 ((w64 (x32.1 * (65536:Int))) + x33.1)) hx34) ?_
    rintro r0 o0 n0 ⟨rfl,rfl,rfl⟩ -
    refine qa0 hτ rfl rfl rfl<|qa4 ?_
    refine qa8 (wk [0] (l:=[(2,.d (.fl .f32 x34))]) (objs:=[.box [sv qal x33.2.code,iv x33.2.at_,.d (.int .u64 x33.2.seed)]])) ?_
    refine qaq ?_
    have hr:=Option.some.inj h
    subst hr
    exact qb0 (.inr rfl) [] (objs':=[.box [sv qal x33.2.code,iv x33.2.at_,.d (.int .u64 x33.2.seed)]]) (new:=[]) rfl (by simp) (by simp) rfl (by trivial) rfl rfl (by trivial) (fun h=>nomatch h) ⟨rfl,rfl,rfl⟩
   ·have h:=if_f h hc31
    refine qa6<|qa2 ?_
    refine qa0 hτ (v:=bv (decide (x27.1 = (2:Int)))) rfl rfl (qim _ _) ?_
    refine qa0 hτ rfl rfl rfl<|qa4 ?_
    refine qa8 (wk [0] (l:=[(0,.ptr 0 0),(27,bv (decide (x27.1 = (2:Int))))]) (objs:=[.box [sv qal x27.2.code,iv x27.2.at_,.d (.int .u64 x27.2.seed)]])) ?_
    refine qaw rfl (fun hc35=>?_) (fun hc35=>?_)
    ·have h:=if_t h hc35
     refine qa6<|qa2<|qa0 hτ rfl rfl rfl ?_
     refine qag h fun x36 hx36 h=>?_
     refine qac hτ false [0] rfl rfl rfl (qai func36 rfl rfl) rfl rfl (by simp) ⟨trivial,trivial,trivial⟩ (by trivial) (qb2 n x27.2 (65536:Int) hx36) ?_
     rintro r0 o0 n0 ⟨rfl,rfl,rfl⟩ -
     refine qa0 hτ rfl rfl rfl ?_
     refine qag h fun x37 hx37 h=>?_
     refine qac hτ false [] rfl rfl rfl (qai func100 rfl rfl) rfl rfl (by simp) ⟨trivial,trivial⟩ (by trivial) (qii n (w64 (x36.1 * (65536:Int))) hx37) ?_
     rintro r0 o0 n0 ⟨rfl,rfl,rfl⟩ -
     refine qa0 hτ rfl rfl rfl<|qa4 ?_
     refine qa8 (wk [0] (l:=[(2,.d (.fl .f32 x37))]) (objs:=[.box [sv qal x36.2.code,iv x36.2.at_,.d (.int .u64 x36.2.seed)]])) ?_
     refine qaq ?_
     have hr:=Option.some.inj h
     subst hr
     exact qb0 (.inr rfl) [] (objs':=[.box [sv qal x36.2.code,iv x36.2.at_,.d (.int .u64 x36.2.seed)]]) (new:=[]) rfl (by simp) (by simp) rfl (by trivial) rfl rfl (by trivial) (fun h=>nomatch h) ⟨rfl,rfl,rfl⟩
    ·have h:=if_f h hc35
     refine qb1<|qa6<|qa2<|qa0 hτ rfl rfl rfl ?_
     refine qag h fun x38 hx38 h=>?_
     refine qac hτ false [0] rfl rfl rfl (qai func107 rfl rfl) rfl rfl (by simp) ⟨trivial,trivial⟩ (by trivial) (qlo n x27.2 hx38) ?_
     rintro r0 o0 n0 ⟨rfl,rfl,rfl⟩ -
     refine qa0 hτ rfl rfl rfl<|qaf hτ rfl rfl rfl ?_
     refine qar (qbk [0] (l:=[(34,.d (.fl .f32 x38.1)),(35,.ptr 0 0),(36,.d (.sl false ([(8388608:Int),(2130706432:Int),(1610612736:Int),(536870912:Int)].map qmt)))]) (objs:=[.box [sv qal x38.2.code,iv x38.2.at_,.d (.int .u64 x38.2.seed)]]) rfl (by simp) rfl (by trivial) ⟨rfl,trivial,rfl,trivial,(qm8 (f:=qmt) (j:=1) (sz:=1) [(8388608:Int),(2130706432:Int),(1610612736:Int),(536870912:Int)] rfl rfl rfl),(qld (f:=qmt) (j:=1) (sz:=1) [(8388608:Int),(2130706432:Int),(1610612736:Int),(536870912:Int)] rfl rfl rfl),trivial⟩) ?_
     refine qag h fun x39 hx39 h=>?_
     refine qac hτ false [0] rfl rfl rfl (qai func108 rfl rfl) rfl rfl (by simp) ⟨trivial,trivial,trivial⟩ (by trivial) (qlm n x38.2 [(8388608:Int),(2130706432:Int),(1610612736:Int),(536870912:Int)] hx39) ?_
     rintro r0 o0 n0 ⟨rfl,rfl,rfl⟩ -
     refine qag h fun x40 hx40 h=>?_
     refine qac hτ false [] rfl rfl rfl (qai func100 rfl rfl) rfl rfl (by simp) ⟨trivial,trivial⟩ (by trivial) (qii n x39.1 hx40) ?_
     rintro r0 o0 n0 ⟨rfl,rfl,rfl⟩ -
     refine qa0 hτ rfl rfl rfl<|qa0 hτ rfl rfl rfl<|qa4 ?_
     refine qa8 (wk [0] (l:=[(2,.d (.fl .f32 (qam .mul .f32 x38.1 x40)))]) (objs:=[.box [sv qal x39.2.code,iv x39.2.at_,.d (.int .u64 x39.2.seed)]])) ?_
     refine qaq ?_
     have hr:=Option.some.inj h
     subst hr
     exact qb0 (.inr rfl) [] (objs':=[.box [sv qal x39.2.code,iv x39.2.at_,.d (.int .u64 x39.2.seed)]]) (new:=[]) rfl (by simp) (by simp) rfl (by trivial) rfl rfl (by trivial) (fun h=>nomatch h) ⟨rfl,rfl,rfl⟩
def qdu (n:Nat) (s_:qao) (most_:Int):Option (Cx × qao) :=
 (qbq n s_ (24:Int)).bind fun x9 =>
 if x9.1 = true then
  (qfd n x9.2).bind fun x11 =>
  (qfd n x11.2).bind fun x12 =>
  some ((Cx.mk x11.1 x12.1),x12.2)
 else
  (qat n x9.2 (w64 ((w64 ((2:Int) * most_)) + (1:Int)))).bind fun x13 =>
  (qat n x13.2 (w64 ((w64 ((2:Int) * most_)) + (1:Int)))).bind fun x14 =>
  some ((Cx.mk (qam .quo .f32 (FloatKind.nearest .f32 (w64 (x13.1 - most_))) (1098907648:Nat)) (qam .quo .f32 (FloatKind.nearest .f32 (w64 (x14.1 - most_))) (1098907648:Nat))),x14.2)
theorem qjp (n:Nat) (s_:qao) (most_:Int) {r:Cx × qao} (h:qdu n s_ most_ = some r):qax prog false 81 [.ptr 0 0,iv most_] [.box [sv qal s_.code,iv s_.at_,.d (.int .u64 s_.seed)]] (fun v o new=>v = (cxv r.1)∧o = [.box [sv qal r.2.code,iv r.2.at_,.d (.int .u64 r.2.seed)]]∧new = []):=by
 refine qaj hτ func81 rfl (by simp) (by simp) ?_
 unfold qdu at h
 refine qa6<|qa2<|qa0 hτ rfl rfl rfl<|qa4<|qa6<|qa6<|qa2<|qa0 hτ rfl rfl rfl ?_
 refine qag h fun x9 hx9 h=>?_
 refine qac hτ false [0] rfl rfl rfl (qai func62 rfl rfl) rfl rfl (by simp) ⟨trivial,trivial,trivial⟩ (by trivial) (qe2 n s_ (24:Int) hx9) ?_
 rintro r0 o0 n0 ⟨rfl,rfl,rfl⟩ -
 refine qa4 ?_
 refine qaw rfl (fun hc10=>?_) (fun hc10=>?_)
 ·have h:=qcv h hc10
  refine qa6<|qa2<|qa0 hτ rfl rfl rfl ?_
  refine qag h fun x11 hx11 h=>?_
  refine qac hτ false [0] rfl rfl rfl (qai func95 rfl rfl) rfl rfl (by simp) ⟨trivial,trivial⟩ (by trivial) (qln n x9.2 hx11) ?_
  rintro r0 o0 n0 ⟨rfl,rfl,rfl⟩ -
  refine qa0 hτ rfl rfl rfl<|qa4<|qa6 ?_
  refine qa8 (wk [0] (l:=[(0,.ptr 0 0),(5,.d (.fl .f32 x11.1))]) (objs:=[.box [sv qal x11.2.code,iv x11.2.at_,.d (.int .u64 x11.2.seed)]])) ?_
  refine qa2<|qa0 hτ rfl rfl rfl<|qa0 hτ rfl rfl rfl ?_
  refine qag h fun x12 hx12 h=>?_
  refine qac hτ false [0] rfl rfl rfl (qai func95 rfl rfl) rfl rfl (by simp) ⟨trivial,trivial⟩ (by trivial) (qln n x11.2 hx12) ?_
  rintro r0 o0 n0 ⟨rfl,rfl,rfl⟩ -
  refine qa0 hτ rfl rfl rfl<|qa0 hτ rfl rfl rfl<|qa4 ?_
  refine qa8 (wk [0] (l:=[(4,.d (.cx .f32 x11.1 x12.1))]) (objs:=[.box [sv qal x12.2.code,iv x12.2.at_,.d (.int .u64 x12.2.seed)]])) ?_
  refine qaq ?_
  have hr:=Option.some.inj h
  subst hr
  exact qb0 (.inr rfl) [] (objs':=[.box [sv qal x12.2.code,iv x12.2.at_,.d (.int .u64 x12.2.seed)]]) (new:=[]) rfl (by simp) (by simp) rfl (by trivial) rfl rfl (by trivial) (fun h=>nomatch h) ⟨rfl,rfl,rfl⟩
 ·have h:=qcu h hc10
  refine qb1<|qa6<|qa2<|qa0 hτ rfl rfl rfl<|qa0 hτ rfl rfl rfl<|qa0 hτ rfl rfl rfl<|qa0 hτ rfl rfl rfl ?_
  refine qag h fun x13 hx13 h=>?_
  refine qac hτ false [0] rfl rfl rfl (qai func36 rfl rfl) rfl rfl (by simp) ⟨trivial,trivial,trivial⟩ (by trivial) (qb2 n x9.2 (w64 ((w64 ((2:Int) * most_)) + (1:Int))) hx13) ?_
  rintro r0 o0 n0 ⟨rfl,rfl,rfl⟩ -
  refine qa0 hτ rfl rfl rfl<|qa0 hτ rfl rfl rfl<|qa0 hτ rfl rfl rfl<|qa0 hτ rfl rfl rfl ?_
  refine qar (wk [0] (l:=[(0,.ptr 0 0),(1,iv most_),(23,.d (.fl .f32 (qam .quo .f32 (FloatKind.nearest .f32 (w64 (x13.1 - most_))) (1098907648:Nat))))]) (objs:=[.box [sv qal x13.2.code,iv x13.2.at_,.d (.int .u64 x13.2.seed)]])) ?_
  refine qa0 hτ rfl rfl rfl<|qa4<|qa6<|qa2<|qa0 hτ rfl rfl rfl<|qa0 hτ rfl rfl rfl<|qa0 hτ rfl rfl rfl<|qa0 hτ rfl rfl rfl ?_
  refine qa0 hτ rfl rfl rfl ?_
  refine qag h fun x14 hx14 h=>?_
  refine qac hτ false [0] rfl rfl rfl (qai func36 rfl rfl) rfl rfl (by simp) ⟨trivial,trivial,trivial⟩ (by trivial) (qb2 n x13.2 (w64 ((w64 ((2:Int) * most_)) + (1:Int))) hx14) ?_
  rintro r0 o0 n0 ⟨rfl,rfl,rfl⟩ -
  refine qa0 hτ rfl rfl rfl<|qa0 hτ rfl rfl rfl<|qa0 hτ rfl rfl rfl<|qa0 hτ rfl rfl rfl<|qa0 hτ rfl rfl rfl ?_
  refine qar (wk [0] (l:=[(34,.d (.cx .f32 (qam .quo .f32 (FloatKind.nearest .f32 (w64 (x13.1 - most_))) (1098907648:Nat)) (qam .quo .f32 (FloatKind.nearest .f32 (w64 (x14.1 - most_))) (1098907648:Nat))))]) (objs:=[.box [sv qal x14.2.code,iv x14.2.at_,.d (.int .u64 x14.2.seed)]])) ?_
  refine qa0 hτ rfl rfl rfl<|qa4 ?_
  refine qa8 (wk [0] (l:=[(4,.d (.cx .f32 (qam .quo .f32 (FloatKind.nearest .f32 (w64 (x13.1 - most_))) (1098907648:Nat)) (qam .quo .f32 (FloatKind.nearest .f32 (w64 (x14.1 - most_))) (1098907648:Nat))))]) (objs:=[.box [sv qal x14.2.code,iv x14.2.at_,.d (.int .u64 x14.2.seed)]])) ?_
  refine qaq ?_
  have hr:=Option.some.inj h
  subst hr
  exact qb0 (.inr rfl) [] (objs':=[.box [sv qal x14.2.code,iv x14.2.at_,.d (.int .u64 x14.2.seed)]]) (new:=[]) rfl (by simp) (by simp) rfl (by trivial) rfl rfl (by trivial) (fun h=>nomatch h) ⟨rfl,rfl,rfl⟩
def qcc (n:Nat) (s_:qao) (most_:Int):Option (qaa × qao) :=
 (qdu n s_ most_).bind fun x4 =>
 (qdu n x4.2 most_).bind fun x5 =>
 (qdu n x5.2 most_).bind fun x6 =>
 some ((qaa.mk x4.1 x5.1 x6.1),x6.2)
theorem qhx (n:Nat) (s_:qao) (most_:Int) {r:qaa × qao} (h:qcc n s_ most_ = some r):qax prog false 65 [.ptr 0 0,iv most_] [.box [sv qal s_.code,iv s_.at_,.d (.int .u64 s_.seed)]] (fun v o new=>v = .agg [cxv r.1.A,cxv r.1.B,cxv r.1.C]∧o = [.box [sv qal r.2.code,iv r.2.at_,.d (.int .u64 r.2.seed)]]∧new = []):=by
 refine qaj hτ func65 rfl (by simp) (by simp) ?_
 unfold qcc at h
 refine qa6<|qa2<|qaf hτ rfl rfl rfl<|qa4<|qa6<|qa2<|qa0 hτ rfl rfl rfl<|qa0 hτ rfl rfl rfl ?_
 refine qag h fun x4 hx4 h=>?_
 refine qac hτ false [0] rfl rfl rfl (qai func81 rfl rfl) rfl rfl (by simp) ⟨trivial,trivial,trivial⟩ (by trivial) (qjp n s_ most_ hx4) ?_
 rintro r0 o0 n0 ⟨rfl,rfl,rfl⟩ -
 refine qa0 hτ rfl rfl rfl<|qaf hτ rfl rfl rfl<|qaf hτ rfl rfl rfl<|qa4<|qa6 ?_
 refine qa8 (wk [0,1,2] (l:=[(0,.ptr 0 0),(1,iv most_),(4,.ptr 1 0),(5,.ptr 2 0)]) (objs:=[.box [sv qal x4.2.code,iv x4.2.at_,.d (.int .u64 x4.2.seed)],.box [.d (.cx .f32 (0:Nat) (0:Nat)),.d (.cx .f32 (0:Nat) (0:Nat)),.d (.cx .f32 (0:Nat) (0:Nat))],.box [cxv x4.1,.d (.cx .f32 (0:Nat) (0:Nat)),.d (.cx .f32 (0:Nat) (0:Nat))]])) ?_
 refine qa2<|qa0 hτ rfl rfl rfl<|qa0 hτ rfl rfl rfl ?_
 refine qag h fun x5 hx5 h=>?_
 refine qac hτ false [0] rfl rfl rfl (qai func81 rfl rfl) rfl rfl (by simp) ⟨trivial,trivial,trivial⟩ (by trivial) (qjp n x4.2 most_ hx5) ?_
 rintro r0 o0 n0 ⟨rfl,rfl,rfl⟩ -
 refine qa0 hτ rfl rfl rfl<|qaf hτ rfl rfl rfl<|qa4<|qa6<|qa2<|qa0 hτ rfl rfl rfl<|qa0 hτ rfl rfl rfl ?_
 refine qag h fun x6 hx6 h=>?_
 refine qac hτ false [0] rfl rfl rfl (qai func81 rfl rfl) rfl rfl (by simp) ⟨trivial,trivial,trivial⟩ (by trivial) (qjp n x5.2 most_ hx6) ?_
 rintro r0 o0 n0 ⟨rfl,rfl,rfl⟩ -
 refine qa0 hτ rfl rfl rfl<|qaf hτ rfl rfl rfl<|qa4<|qa6 ?_
 refine qa8 (wk [0,1,2] (l:=[(4,.ptr 1 0),(5,.ptr 2 0)]) (objs:=[.box [sv qal x6.2.code,iv x6.2.at_,.d (.int .u64 x6.2.seed)],.box [.d (.cx .f32 (0:Nat) (0:Nat)),.d (.cx .f32 (0:Nat) (0:Nat)),.d (.cx .f32 (0:Nat) (0:Nat))],.box [cxv x4.1,cxv x5.1,cxv x6.1]])) ?_
 refine qa2<|qa0 hτ rfl rfl rfl<|qaf hτ rfl rfl rfl<|qa4 ?_
 refine qa8 (wk [0,1] (l:=[(4,.ptr 1 0)]) (objs:=[.box [sv qal x6.2.code,iv x6.2.at_,.d (.int .u64 x6.2.seed)],.box [cxv x4.1,cxv x5.1,cxv x6.1]])) ?_
 refine qaq ?_
 have hr:=Option.some.inj h
 subst hr
 exact qb0 (.inr rfl) [] (objs':=[.box [sv qal x6.2.code,iv x6.2.at_,.d (.int .u64 x6.2.seed)]]) (new:=[]) rfl (by simp) (by simp) rfl (by trivial) rfl rfl (by trivial) (fun h=>nomatch h) ⟨rfl,rfl,rfl⟩
def qix (n:Nat) (v87:Cx) (v88:Cx) (v89:Cx) (v153:List Int) (v154:Int) (v155:Int) (v156:List SBus):Option (qb8 × qao) :=
 some ((qb8.mk (qaa.mk v87 v88 v89) v156),(qao.mk v153 v154 v155))
def qgy (n:Nat) (k221:List Int→Int→Int→List SBus→Int→Option (qb8 × qao)) (v188:Int) (v249:List Int) (v250:Int) (v251:Int) (v252:List SBus):Option (qb8 × qao) :=
 k221 v249 v250 v251 v252 (w64 (v188 + (1:Int)))
def qef (n:Nat) (k221:List Int→Int→Int→List SBus→Int→Option (qb8 × qao)) (v187:List SBus) (v188:Int) (v272:Int) (v273:Cx) (v274:Cx) (x275:Int × qao) (v284:List Int) (v285:Int) (v286:Int) (v287:Cx) (v288:Cx) (v289:Cx):Option (qb8 × qao) :=
 (qat n (qao.mk v284 v285 v286) (30:Int)).bind fun x290 =>
 grd (room (v187.length + 1) 64) <|
 qgy n k221 v188 x290.2.code x290.2.at_ x290.2.seed (v187 ++ [(SBus.mk v272 v273 v274 x275.1 (qaa.mk v287 v288 v289) x290.1)])
def qee (n:Nat) (k221:List Int→Int→Int→List SBus→Int→Option (qb8 × qao)) (v187:List SBus) (v188:Int) (v269:List Int) (v270:Int) (v271:Int) (v272:Int) (v273:Cx) (v274:Cx):Option (qb8 × qao) :=
 (qat n (qao.mk v269 v270 v271) (3:Int)).bind fun x275 =>
 (qbq n x275.2 (3:Int)).bind fun x293 =>
 if x293.1 = true then
  qef n k221 v187 v188 v272 v273 v274 x275 x293.2.code x293.2.at_ x293.2.seed (Cx.mk (0:Nat) (0:Nat)) (Cx.mk (0:Nat) (0:Nat)) (Cx.mk (0:Nat) (0:Nat))
 else
  (qcc n x293.2 (24:Int)).bind fun x295 =>
  qef n k221 v187 v188 v272 v273 v274 x275 x295.2.code x295.2.at_ x295.2.seed x295.1.A x295.1.B x295.1.C
def qeg (n:Nat) (k221:List Int→Int→Int→List SBus→Int→Option (qb8 × qao)) (v187:List SBus) (v188:Int) (v304:List Int) (v305:Int) (v306:Int) (v307:Int):Option (qb8 × qao) :=
 (qat n (qao.mk v304 v305 v306) (5:Int)).bind fun x308 =>
 (qat n x308.2 (5:Int)).bind fun x309 =>
 (qat n x309.2 (3:Int)).bind fun x310 =>
 qee n k221 v187 v188 x310.2.code x310.2.at_ x310.2.seed v307 (Cx.mk (qam .quo .f32 (FloatKind.nearest .f32 x308.1) (1098907648:Nat)) (qam .quo .f32 (FloatKind.nearest .f32 x309.1) (1098907648:Nat))) (Cx.mk (0:Nat) (qam .quo .f32 (FloatKind.nearest .f32 x310.1) (1098907648:Nat)))
def qb5 (n:Nat) (v87:Cx) (v88:Cx) (v89:Cx) (x90:Int × qao):Nat→List Int→Int→Int→List SBus→Int→Option (qb8 × qao)
 | 0,_,_,_,_,_=>none
 | m220 + 1,v184,v185,v186,v187,v188 =>
  if v188 < (w64 ((1:Int) + x90.1)) then
   if v188 > (0:Int) then
    (qbq n (qao.mk v184 v185 v186) (2:Int)).bind fun x312 =>
    if x312.1 = true then
     (qat n x312.2 v188).bind fun x314 =>
     qeg n (qb5 n v87 v88 v89 x90 m220) v187 v188 x314.2.code x314.2.at_ x314.2.seed x314.1
    else
     qeg n (qb5 n v87 v88 v89 x90 m220) v187 v188 x312.2.code x312.2.at_ x312.2.seed (w64 (v188 - (1:Int)))
   else
    qee n (qb5 n v87 v88 v89 x90 m220) v187 v188 v184 v185 v186 (w64 (v188 - (1:Int))) (Cx.mk (0:Nat) (0:Nat)) (Cx.mk (0:Nat) (0:Nat))
  else
   qix n v87 v88 v89 v184 v185 v186 v187
def qec (n:Nat) (v84:List Int) (v85:Int) (v86:Int) (v87:Cx) (v88:Cx) (v89:Cx):Option (qb8 × qao) :=
 (qat n (qao.mk v84 v85 v86) (6:Int)).bind fun x90 =>
 qb5 n v87 v88 v89 x90 n x90.2.code x90.2.at_ x90.2.seed ([]:List SBus) (0:Int)
def qj5 (n:Nat) (s_:qao):Option (qb8 × qao) :=
 (qat n s_ (8:Int)).bind fun x74 =>
 (qcp n (Cx.mk (FloatKind.nearest .f32 (w64 ((8:Int) + x74.1))) (0:Nat))).bind fun x75 =>
 (qbq n x74.2 (5:Int)).bind fun x316 =>
 if x316.1 = true then
  (qcc n x316.2 (40:Int)).bind fun x318 =>
  qec n x318.2.code x318.2.at_ x318.2.seed x318.1.A x318.1.B x318.1.C
 else
  qec n x316.2.code x316.2.at_ x316.2.seed x75.A x75.B x75.C
theorem spec_l02DrawOk_ok (n:Nat) (s_:qao) {r:qb8 × qao} (h:qj5 n s_ = some r):qax prog false 60 [.ptr 0 0] [.box [sv qal s_.code,iv s_.at_,.d (.int .u64 s_.seed)]] (fun v o new=>v = .agg [cxv r.1.Source.A,cxv r.1.Source.B,cxv r.1.Source.C,.row 1 r.1.qa5.length 0 r.1.qa5.length]∧o = [.box [sv qal r.2.code,iv r.2.at_,.d (.int .u64 r.2.seed)]]∧new = [.row 8 (r.1.qa5.map qae)]):=by
 refine qaj hτ func60 rfl (by simp) (by simp) ?_
 unfold qj5 at h
 refine qa6<|qa2<|qaf hτ rfl rfl rfl<|qa4<|qa6<|qa2<|qa0 hτ rfl rfl rfl ?_
 refine qag h fun x74 hx74 h=>?_
 refine qac hτ false [0] rfl rfl rfl (qai func36 rfl rfl) rfl rfl (by simp) ⟨trivial,trivial,trivial⟩ (by trivial) (qb2 n s_ (8:Int) hx74) ?_
 rintro r0 o0 n0 ⟨rfl,rfl,rfl⟩ -
 refine qa0 hτ rfl rfl rfl<|qa0 hτ rfl rfl rfl<|qa0 hτ rfl rfl rfl ?_
 refine qag h fun x75 hx75 h=>?_
 refine qac hτ false [] rfl rfl rfl (qai func76 rfl rfl) rfl rfl (by simp) ⟨trivial,trivial⟩ (by trivial) (spec_l02Even_ok n (Cx.mk (FloatKind.nearest .f32 (w64 ((8:Int) + x74.1))) (0:Nat)) hx75) ?_
 rintro r0 o0 n0 ⟨rfl,rfl,rfl⟩ -
 refine qaf hτ rfl rfl rfl<|qa0 hτ rfl rfl rfl<|qaf hτ rfl rfl rfl<|qaf hτ rfl rfl rfl<|qa4 ?_
 refine qbn (ι:=List Int × Int × Int × Cx × Cx × Cx) (fun (v84,v85,v86,v87,v88,v89)=>St.of [(0,.ptr 0 0),(2,.ptr 1 0),(3,.ptr 2 0)] [.box [sv qal v84,iv v85,.d (.int .u64 v86)],.box [.d (.cx .f32 (0:Nat) (0:Nat)),.d (.cx .f32 (0:Nat) (0:Nat)),.d (.cx .f32 (0:Nat) (0:Nat)),.d (.nils)],.box [cxv v87,cxv v88,cxv v89,.row 3 (([]:List SBus).length) 0 (([]:List SBus).length)],.row 8 (([]:List SBus).map qae)] f60.ntmps 1) (fun (v84,v85,v86,v87,v88,v89)=>qec n v84 v85 v86 v87 v88 v89 = some r) ?_ (fun hk315=>?_)
 ·rintro ⟨v84,v85,v86,v87,v88,v89⟩ h
  replace h:qec n v84 v85 v86 v87 v88 v89 = some r:=h
  unfold qec at h
  refine qa6<|qa2<|qa0 hτ rfl rfl rfl ?_
  refine qag h fun x90 hx90 h=>?_
  refine qac hτ false [0] rfl rfl rfl (qai func36 rfl rfl) rfl rfl (by simp) ⟨trivial,trivial,trivial⟩ (by trivial) (qb2 n (qao.mk v84 v85 v86) (6:Int) hx90) ?_
  rintro r0 o0 n0 ⟨rfl,rfl,rfl⟩ -
  refine qa0 hτ rfl rfl rfl<|qa0 hτ rfl rfl rfl<|qa4 ?_
  refine qbn (ι:=List Int × Int × Int × List SBus) (fun (v153,v154,v155,v156)=>St.of [(2,.ptr 1 0),(3,.ptr 2 0)] [.box [sv qal v153,iv v154,.d (.int .u64 v155)],.box [.d (.cx .f32 (0:Nat) (0:Nat)),.d (.cx .f32 (0:Nat) (0:Nat)),.d (.cx .f32 (0:Nat) (0:Nat)),.d (.nils)],.box [cxv v87,cxv v88,cxv v89,.row 3 v156.length 0 v156.length],.row 8 (v156.map qae)] f60.ntmps 1) (fun (v153,v154,v155,v156)=>qix n v87 v88 v89 v153 v154 v155 v156 = some r) ?_ (fun hk157=>?_)
  ·rintro ⟨v153,v154,v155,v156⟩ h
   replace h:qix n v87 v88 v89 v153 v154 v155 v156 = some r:=h
   unfold qix at h
   refine qa6<|qa2<|qa0 hτ rfl rfl rfl<|qaf hτ rfl rfl rfl<|qa4 ?_
   refine qa8 (wk [0,1,3] (l:=[(2,.ptr 1 0)]) (objs:=[.box [sv qal v153,iv v154,.d (.int .u64 v155)],.box [cxv v87,cxv v88,cxv v89,.row 2 v156.length 0 v156.length],.row 8 (v156.map qae)])) ?_
   refine qaq ?_
   have hr:=Option.some.inj h
   subst hr
   exact qb0 (.inr rfl) [2] (objs':=[.box [sv qal v153,iv v154,.d (.int .u64 v155)]]) (new:=[.row 8 (v156.map qae)]) rfl (by simp) (by simp) rfl (by trivial) rfl rfl (by trivial) (fun h=>nomatch h) ⟨rfl,rfl,rfl⟩
  ·refine qa6<|qa6<|qa2<|qa0 hτ rfl rfl rfl<|qa4<|qb9 ?_
   refine qev (ι:=Nat × List Int × Int × Int × List SBus × Int) (fun (m220,v184,v185,v186,v187,v188)=>St.of [(0,.ptr 0 0),(2,.ptr 1 0),(3,.ptr 2 0),(4,iv (w64 ((1:Int) + x90.1))),(5,iv v188)] [.box [sv qal v184,iv v185,.d (.int .u64 v186)],.box [.d (.cx .f32 (0:Nat) (0:Nat)),.d (.cx .f32 (0:Nat) (0:Nat)),.d (.cx .f32 (0:Nat) (0:Nat)),.d (.nils)],.box [cxv v87,cxv v88,cxv v89,.row 3 v187.length 0 v187.length],.row 8 (v187.map qae)] f60.ntmps 1) (fun (m220,v184,v185,v186,v187,v188)=>qb5 n v87 v88 v89 x90 m220 v184 v185 v186 v187 v188 = some r) (fun x=>x.1) (n,x90.2.code,x90.2.at_,x90.2.seed,([]:List SBus),(0:Int)) h (wk [0,1,2,3] (l:=[(0,.ptr 0 0),(2,.ptr 1 0),(3,.ptr 2 0),(4,iv (w64 ((1:Int) + x90.1))),(5,iv (0:Int))]) (objs:=[.box [sv qal x90.2.code,iv x90.2.at_,.d (.int .u64 x90.2.seed)],.box [.d (.cx .f32 (0:Nat) (0:Nat)),.d (.cx .f32 (0:Nat) (0:Nat)),.d (.cx .f32 (0:Nat) (0:Nat)),.d (.nils)],.box [cxv v87,cxv v88,cxv v89,.row 3 (([]:List SBus).length) 0 (([]:List SBus).length)],.row 8 (([]:List SBus).map qae)])) ?_
   rintro ⟨m220,v184,v185,v186,v187,v188⟩ h
   replace h:qb5 n v87 v88 v89 x90 m220 v184 v185 v186 v187 v188 = some r:=h
   rcases m220 with _ | m220
   ·rw [qb5] at h;cases h
   rw [qb5] at h
   refine qa6<|qa6<|qa2<|qa0 hτ rfl rfl rfl<|qa0 hτ rfl rfl rfl<|qa0 hτ rfl rfl rfl<|qa4 ?_
   refine qaw rfl (fun hc222=>?_) (fun hc222=>?_)
   ·have h:=if_t h hc222
    refine qb1 ?_
    refine qbn (ι:=List Int × Int × Int × List SBus) (fun (v249,v250,v251,v252)=>St.of [(0,.ptr 0 0),(2,.ptr 1 0),(3,.ptr 2 0),(4,iv (w64 ((1:Int) + x90.1))),(5,iv v188)] [.box [sv qal v249,iv v250,.d (.int .u64 v251)],.box [.d (.cx .f32 (0:Nat) (0:Nat)),.d (.cx .f32 (0:Nat) (0:Nat)),.d (.cx .f32 (0:Nat) (0:Nat)),.d (.nils)],.box [cxv v87,cxv v88,cxv v89,.row 3 v252.length 0 v252.length],.row 8 (v252.map qae)] f60.ntmps 1) (fun (v249,v250,v251,v252)=>qgy n (qb5 n v87 v88 v89 x90 m220) v188 v249 v250 v251 v252 = some r) ?_ (fun hk253=>?_)
    ·rintro ⟨v249,v250,v251,v252⟩ h
     replace h:qgy n (qb5 n v87 v88 v89 x90 m220) v188 v249 v250 v251 v252 = some r:=h
     unfold qgy at h
     refine qa2<|qa0 hτ rfl rfl rfl<|qa0 hτ rfl rfl rfl<|qa0 hτ rfl rfl rfl<|qa4 ?_
     exact ⟨(m220,v249,v250,v251,v252,(w64 (v188 + (1:Int)))),h,Nat.lt_succ_self m220,(wk [0,1,2,3] (l:=[(0,.ptr 0 0),(2,.ptr 1 0),(3,.ptr 2 0),(4,iv (w64 ((1:Int) + x90.1))),(5,iv (w64 (v188 + (1:Int))))]) (objs:=[.box [sv qal v249,iv v250,.d (.int .u64 v251)],.box [.d (.cx .f32 (0:Nat) (0:Nat)),.d (.cx .f32 (0:Nat) (0:Nat)),.d (.cx .f32 (0:Nat) (0:Nat)),.d (.nils)],.box [cxv v87,cxv v88,cxv v89,.row 3 v252.length 0 v252.length],.row 8 (v252.map qae)]))⟩
    ·refine qa6<|qb9<|qa6<|qa2<|qa0 hτ rfl rfl rfl<|qa0 hτ rfl rfl rfl<|qa0 hτ rfl rfl rfl<|qaf hτ rfl rfl rfl ?_
     refine qaf hτ rfl rfl rfl<|qa4 ?_
     refine qbn (ι:=List Int × Int × Int × Int × Cx × Cx) (fun (v269,v270,v271,v272,v273,v274)=>St.of [(0,.ptr 0 0),(2,.ptr 1 0),(3,.ptr 2 0),(4,iv (w64 ((1:Int) + x90.1))),(5,iv v188),(6,.ptr 4 0)] [.box [sv qal v269,iv v270,.d (.int .u64 v271)],.box [.d (.cx .f32 (0:Nat) (0:Nat)),.d (.cx .f32 (0:Nat) (0:Nat)),.d (.cx .f32 (0:Nat) (0:Nat)),.d (.nils)],.box [cxv v87,cxv v88,cxv v89,.row 3 v187.length 0 v187.length],.row 8 (v187.map qae),.box [iv v272,cxv v273,cxv v274,iv (0:Int),.d (.cx .f32 (0:Nat) (0:Nat)),.d (.cx .f32 (0:Nat) (0:Nat)),.d (.cx .f32 (0:Nat) (0:Nat)),iv (0:Int)]] f60.ntmps 1) (fun (v269,v270,v271,v272,v273,v274)=>qee n (qb5 n v87 v88 v89 x90 m220) v187 v188 v269 v270 v271 v272 v273 v274 = some r) ?_ (fun hk296=>?_)
     ·rintro ⟨v269,v270,v271,v272,v273,v274⟩ h
      replace h:qee n (qb5 n v87 v88 v89 x90 m220) v187 v188 v269 v270 v271 v272 v273 v274 = some r:=h
      unfold qee at h
      refine qa6<|qa2<|qa0 hτ rfl rfl rfl ?_
      refine qag h fun x275 hx275 h=>?_
      refine qac hτ false [0] rfl rfl rfl (qai func36 rfl rfl) rfl rfl (by simp) ⟨trivial,trivial,trivial⟩ (by trivial) (qb2 n (qao.mk v269 v270 v271) (3:Int) hx275) ?_
      rintro r0 o0 n0 ⟨rfl,rfl,rfl⟩ -
      refine qa0 hτ rfl rfl rfl<|qaf hτ rfl rfl rfl<|qa4 ?_
      refine qbn (ι:=List Int × Int × Int × Cx × Cx × Cx) (fun (v284,v285,v286,v287,v288,v289)=>St.of [(0,.ptr 0 0),(2,.ptr 1 0),(3,.ptr 2 0),(4,iv (w64 ((1:Int) + x90.1))),(5,iv v188),(6,.ptr 4 0)] [.box [sv qal v284,iv v285,.d (.int .u64 v286)],.box [.d (.cx .f32 (0:Nat) (0:Nat)),.d (.cx .f32 (0:Nat) (0:Nat)),.d (.cx .f32 (0:Nat) (0:Nat)),.d (.nils)],.box [cxv v87,cxv v88,cxv v89,.row 3 v187.length 0 v187.length],.row 8 (v187.map qae),.box [iv v272,cxv v273,cxv v274,iv x275.1,cxv v287,cxv v288,cxv v289,iv (0:Int)]] f60.ntmps 1) (fun (v284,v285,v286,v287,v288,v289)=>qef n (qb5 n v87 v88 v89 x90 m220) v187 v188 v272 v273 v274 x275 v284 v285 v286 v287 v288 v289 = some r) ?_ (fun hk292=>?_)
      ·rintro ⟨v284,v285,v286,v287,v288,v289⟩ h
       replace h:qef n (qb5 n v87 v88 v89 x90 m220) v187 v188 v272 v273 v274 x275 v284 v285 v286 v287 v288 v289 = some r:=h
       unfold qef at h
       refine qa6<|qa2<|qa0 hτ rfl rfl rfl ?_
       refine qag h fun x290 hx290 h=>?_
       refine qac hτ false [0] rfl rfl rfl (qai func36 rfl rfl) rfl rfl (by simp) ⟨trivial,trivial,trivial⟩ (by trivial) (qb2 n (qao.mk v284 v285 v286) (30:Int) hx290) ?_
       rintro r0 o0 n0 ⟨rfl,rfl,rfl⟩ -
       refine qa0 hτ rfl rfl rfl<|qaf hτ rfl rfl rfl<|qa4<|qa2<|qa0 hτ rfl rfl rfl<|qa0 hτ rfl rfl rfl<|qa0 hτ rfl rfl rfl<|qaf hτ rfl rfl rfl ?_
       refine qcr h fun hg291 h=>?_
       refine qk4 hτ rfl rfl (Eq.trans rfl (or_append (f:=qae) v187 [(SBus.mk v272 v273 v274 x275.1 (qaa.mk v287 v288 v289) x290.1)] rfl)) ⟨⟨rfl,Nat.le_of_ble_eq_true rfl⟩,qco _,rfl,rfl,hg291,by decide,(all1 rfl)⟩ ?_
       refine qa0 hτ rfl rfl rfl<|qaf hτ rfl rfl rfl<|qa4 ?_
       refine qa8 (wk [0,1,2,3] (l:=[(0,.ptr 0 0),(2,.ptr 1 0),(3,.ptr 2 0),(4,iv (w64 ((1:Int) + x90.1))),(5,iv v188)]) (objs:=[.box [sv qal x290.2.code,iv x290.2.at_,.d (.int .u64 x290.2.seed)],.box [.d (.cx .f32 (0:Nat) (0:Nat)),.d (.cx .f32 (0:Nat) (0:Nat)),.d (.cx .f32 (0:Nat) (0:Nat)),.d (.nils)],.box [cxv v87,cxv v88,cxv v89,.row 3 ((v187 ++ [(SBus.mk v272 v273 v274 x275.1 (qaa.mk v287 v288 v289) x290.1)]).length) 0 ((v187 ++ [(SBus.mk v272 v273 v274 x275.1 (qaa.mk v287 v288 v289) x290.1)]).length)],.row 8 ((v187 ++ [(SBus.mk v272 v273 v274 x275.1 (qaa.mk v287 v288 v289) x290.1)]).map qae)])) ?_
       exact hk253 (x290.2.code,x290.2.at_,x290.2.seed,(v187 ++ [(SBus.mk v272 v273 v274 x275.1 (qaa.mk v287 v288 v289) x290.1)])) h
      ·refine qa6<|qa6<|qa2<|qa0 hτ rfl rfl rfl ?_
       refine qag h fun x293 hx293 h=>?_
       refine qac hτ false [0] rfl rfl rfl (qai func62 rfl rfl) rfl rfl (by simp) ⟨trivial,trivial,trivial⟩ (by trivial) (qe2 n x275.2 (3:Int) hx293) ?_
       rintro r0 o0 n0 ⟨rfl,rfl,rfl⟩ -
       refine qa0 hτ rfl rfl rfl<|qa4 ?_
       refine qa8 (wk [0,1,2,3,4] (l:=[(0,.ptr 0 0),(2,.ptr 1 0),(3,.ptr 2 0),(4,iv (w64 ((1:Int) + x90.1))),(5,iv v188),(6,.ptr 4 0),(62,bv (!x293.1))]) (objs:=[.box [sv qal x293.2.code,iv x293.2.at_,.d (.int .u64 x293.2.seed)],.box [.d (.cx .f32 (0:Nat) (0:Nat)),.d (.cx .f32 (0:Nat) (0:Nat)),.d (.cx .f32 (0:Nat) (0:Nat)),.d (.nils)],.box [cxv v87,cxv v88,cxv v89,.row 3 v187.length 0 v187.length],.row 8 (v187.map qae),.box [iv v272,cxv v273,cxv v274,iv x275.1,.d (.cx .f32 (0:Nat) (0:Nat)),.d (.cx .f32 (0:Nat) (0:Nat)),.d (.cx .f32 (0:Nat) (0:Nat)),iv (0:Int)]])) ?_
       refine qaw rfl (fun hc294=>?_) (fun hc294=>?_)
       ·have hc294:=qi4 hc294
        have h:=qcu h hc294
        refine qa2<|qa0 hτ rfl rfl rfl ?_
        refine qag h fun x295 hx295 h=>?_
        refine qac hτ false [0] rfl rfl rfl (qai func65 rfl rfl) rfl rfl (by simp) ⟨trivial,trivial,trivial⟩ (by trivial) (qhx n x293.2 (24:Int) hx295) ?_
        rintro r0 o0 n0 ⟨rfl,rfl,rfl⟩ -
        refine qa0 hτ rfl rfl rfl<|qaf hτ rfl rfl rfl<|qa4 ?_
        refine qa8 (wk [0,1,2,3,4] (l:=[(0,.ptr 0 0),(2,.ptr 1 0),(3,.ptr 2 0),(4,iv (w64 ((1:Int) + x90.1))),(5,iv v188),(6,.ptr 4 0)]) (objs:=[.box [sv qal x295.2.code,iv x295.2.at_,.d (.int .u64 x295.2.seed)],.box [.d (.cx .f32 (0:Nat) (0:Nat)),.d (.cx .f32 (0:Nat) (0:Nat)),.d (.cx .f32 (0:Nat) (0:Nat)),.d (.nils)],.box [cxv v87,cxv v88,cxv v89,.row 3 v187.length 0 v187.length],.row 8 (v187.map qae),.box [iv v272,cxv v273,cxv v274,iv x275.1,cxv x295.1.A,cxv x295.1.B,cxv x295.1.C,iv (0:Int)]])) ?_
        exact hk292 (x295.2.code,x295.2.at_,x295.2.seed,x295.1.A,x295.1.B,x295.1.C) h
       ·have hc294:=qi3 hc294
        have h:=qcv h hc294
        refine qb1 ?_
        refine qa8 (wk [0,1,2,3,4] (l:=[(0,.ptr 0 0),(2,.ptr 1 0),(3,.ptr 2 0),(4,iv (w64 ((1:Int) + x90.1))),(5,iv v188),(6,.ptr 4 0)]) (objs:=[.box [sv qal x293.2.code,iv x293.2.at_,.d (.int .u64 x293.2.seed)],.box [.d (.cx .f32 (0:Nat) (0:Nat)),.d (.cx .f32 (0:Nat) (0:Nat)),.d (.cx .f32 (0:Nat) (0:Nat)),.d (.nils)],.box [cxv v87,cxv v88,cxv v89,.row 3 v187.length 0 v187.length],.row 8 (v187.map qae),.box [iv v272,cxv v273,cxv v274,iv x275.1,.d (.cx .f32 (0:Nat) (0:Nat)),.d (.cx .f32 (0:Nat) (0:Nat)),.d (.cx .f32 (0:Nat) (0:Nat)),iv (0:Int)]])) ?_
        exact hk292 (x293.2.code,x293.2.at_,x293.2.seed,(Cx.mk (0:Nat) (0:Nat)),(Cx.mk (0:Nat) (0:Nat)),(Cx.mk (0:Nat) (0:Nat))) h
     ·refine qa6<|qa6 ?_
      refine qa8 (wk [0,1,2,3,4] (l:=[(0,.ptr 0 0),(2,.ptr 1 0),(3,.ptr 2 0),(4,iv (w64 ((1:Int) + x90.1))),(5,iv v188),(6,.ptr 4 0)]) (objs:=[.box [sv qal v184,iv v185,.d (.int .u64 v186)],.box [.d (.cx .f32 (0:Nat) (0:Nat)),.d (.cx .f32 (0:Nat) (0:Nat)),.d (.cx .f32 (0:Nat) (0:Nat)),.d (.nils)],.box [cxv v87,cxv v88,cxv v89,.row 3 v187.length 0 v187.length],.row 8 (v187.map qae),.box [iv (w64 (v188 - (1:Int))),.d (.cx .f32 (0:Nat) (0:Nat)),.d (.cx .f32 (0:Nat) (0:Nat)),iv (0:Int),.d (.cx .f32 (0:Nat) (0:Nat)),.d (.cx .f32 (0:Nat) (0:Nat)),.d (.cx .f32 (0:Nat) (0:Nat)),iv (0:Int)]])) ?_
      refine qa2<|qa0 hτ rfl rfl rfl<|qa0 hτ rfl rfl rfl<|qa4 ?_
      refine qaw rfl (fun hc297=>?_) (fun hc297=>?_)
      ·have h:=if_t h hc297
       refine qbn (ι:=List Int × Int × Int × Int) (fun (v304,v305,v306,v307)=>St.of [(0,.ptr 0 0),(2,.ptr 1 0),(3,.ptr 2 0),(4,iv (w64 ((1:Int) + x90.1))),(5,iv v188),(6,.ptr 4 0)] [.box [sv qal v304,iv v305,.d (.int .u64 v306)],.box [.d (.cx .f32 (0:Nat) (0:Nat)),.d (.cx .f32 (0:Nat) (0:Nat)),.d (.cx .f32 (0:Nat) (0:Nat)),.d (.nils)],.box [cxv v87,cxv v88,cxv v89,.row 3 v187.length 0 v187.length],.row 8 (v187.map qae),.box [iv v307,.d (.cx .f32 (0:Nat) (0:Nat)),.d (.cx .f32 (0:Nat) (0:Nat)),iv (0:Int),.d (.cx .f32 (0:Nat) (0:Nat)),.d (.cx .f32 (0:Nat) (0:Nat)),.d (.cx .f32 (0:Nat) (0:Nat)),iv (0:Int)]] f60.ntmps 1) (fun (v304,v305,v306,v307)=>qeg n (qb5 n v87 v88 v89 x90 m220) v187 v188 v304 v305 v306 v307 = some r) ?_ (fun hk311=>?_)
       ·rintro ⟨v304,v305,v306,v307⟩ h
        replace h:qeg n (qb5 n v87 v88 v89 x90 m220) v187 v188 v304 v305 v306 v307 = some r:=h
        unfold qeg at h
        refine qa6<|qa2<|qa0 hτ rfl rfl rfl ?_
        refine qag h fun x308 hx308 h=>?_
        refine qac hτ false [0] rfl rfl rfl (qai func36 rfl rfl) rfl rfl (by simp) ⟨trivial,trivial,trivial⟩ (by trivial) (qb2 n (qao.mk v304 v305 v306) (5:Int) hx308) ?_
        rintro r0 o0 n0 ⟨rfl,rfl,rfl⟩ -
        refine qa0 hτ rfl rfl rfl<|qa0 hτ rfl rfl rfl<|qa0 hτ rfl rfl rfl<|qa4<|qa6<|qa2<|qa0 hτ rfl rfl rfl<|qa0 hτ rfl rfl rfl ?_
        refine qag h fun x309 hx309 h=>?_
        refine qac hτ false [0] rfl rfl rfl (qai func36 rfl rfl) rfl rfl (by simp) ⟨trivial,trivial,trivial⟩ (by trivial) (qb2 n x308.2 (5:Int) hx309) ?_
        rintro r0 o0 n0 ⟨rfl,rfl,rfl⟩ -
        refine qa0 hτ rfl rfl rfl<|qa0 hτ rfl rfl rfl<|qa0 hτ rfl rfl rfl<|qa0 hτ rfl rfl rfl ?_
        refine qar (wk [0,1,2,3,4] (l:=[(0,.ptr 0 0),(2,.ptr 1 0),(3,.ptr 2 0),(4,iv (w64 ((1:Int) + x90.1))),(5,iv v188),(6,.ptr 4 0),(49,.d (.cx .f32 (qam .quo .f32 (FloatKind.nearest .f32 x308.1) (1098907648:Nat)) (qam .quo .f32 (FloatKind.nearest .f32 x309.1) (1098907648:Nat)))),(50,.ptr 4 1)]) (objs:=[.box [sv qal x309.2.code,iv x309.2.at_,.d (.int .u64 x309.2.seed)],.box [.d (.cx .f32 (0:Nat) (0:Nat)),.d (.cx .f32 (0:Nat) (0:Nat)),.d (.cx .f32 (0:Nat) (0:Nat)),.d (.nils)],.box [cxv v87,cxv v88,cxv v89,.row 3 v187.length 0 v187.length],.row 8 (v187.map qae),.box [iv v307,.d (.cx .f32 (0:Nat) (0:Nat)),.d (.cx .f32 (0:Nat) (0:Nat)),iv (0:Int),.d (.cx .f32 (0:Nat) (0:Nat)),.d (.cx .f32 (0:Nat) (0:Nat)),.d (.cx .f32 (0:Nat) (0:Nat)),iv (0:Int)]])) ?_
        refine qaf hτ rfl rfl rfl<|qa4<|qa2<|qa0 hτ rfl rfl rfl ?_
        refine qag h fun x310 hx310 h=>?_
        refine qac hτ false [0] rfl rfl rfl (qai func36 rfl rfl) rfl rfl (by simp) ⟨trivial,trivial,trivial⟩ (by trivial) (qb2 n x309.2 (3:Int) hx310) ?_
        rintro r0 o0 n0 ⟨rfl,rfl,rfl⟩ -
        refine qa0 hτ rfl rfl rfl<|qa0 hτ rfl rfl rfl<|qa0 hτ rfl rfl rfl<|qa0 hτ rfl rfl rfl<|qaf hτ rfl rfl rfl<|qa4 ?_
        refine qa8 (wk [0,1,2,3,4] (l:=[(0,.ptr 0 0),(2,.ptr 1 0),(3,.ptr 2 0),(4,iv (w64 ((1:Int) + x90.1))),(5,iv v188),(6,.ptr 4 0)]) (objs:=[.box [sv qal x310.2.code,iv x310.2.at_,.d (.int .u64 x310.2.seed)],.box [.d (.cx .f32 (0:Nat) (0:Nat)),.d (.cx .f32 (0:Nat) (0:Nat)),.d (.cx .f32 (0:Nat) (0:Nat)),.d (.nils)],.box [cxv v87,cxv v88,cxv v89,.row 3 v187.length 0 v187.length],.row 8 (v187.map qae),.box [iv v307,.d (.cx .f32 (qam .quo .f32 (FloatKind.nearest .f32 x308.1) (1098907648:Nat)) (qam .quo .f32 (FloatKind.nearest .f32 x309.1) (1098907648:Nat))),.d (.cx .f32 (0:Nat) (qam .quo .f32 (FloatKind.nearest .f32 x310.1) (1098907648:Nat))),iv (0:Int),.d (.cx .f32 (0:Nat) (0:Nat)),.d (.cx .f32 (0:Nat) (0:Nat)),.d (.cx .f32 (0:Nat) (0:Nat)),iv (0:Int)]])) ?_
        exact hk296 (x310.2.code,x310.2.at_,x310.2.seed,v307,(Cx.mk (qam .quo .f32 (FloatKind.nearest .f32 x308.1) (1098907648:Nat)) (qam .quo .f32 (FloatKind.nearest .f32 x309.1) (1098907648:Nat))),(Cx.mk (0:Nat) (qam .quo .f32 (FloatKind.nearest .f32 x310.1) (1098907648:Nat)))) h
       ·refine qa6<|qa6<|qa2<|qa0 hτ rfl rfl rfl ?_
        refine qag h fun x312 hx312 h=>?_
        refine qac hτ false [0] rfl rfl rfl (qai func62 rfl rfl) rfl rfl (by simp) ⟨trivial,trivial,trivial⟩ (by trivial) (qe2 n (qao.mk v184 v185 v186) (2:Int) hx312) ?_
        rintro r0 o0 n0 ⟨rfl,rfl,rfl⟩ -
        refine qa4 ?_
        refine qaw rfl (fun hc313=>?_) (fun hc313=>?_)
        ·have h:=qcv h hc313
         refine qa2<|qa0 hτ rfl rfl rfl<|qa0 hτ rfl rfl rfl ?_
         refine qag h fun x314 hx314 h=>?_
         refine qac hτ false [0] rfl rfl rfl (qai func36 rfl rfl) rfl rfl (by simp) ⟨trivial,trivial,trivial⟩ (by trivial) (qb2 n x312.2 v188 hx314) ?_
         rintro r0 o0 n0 ⟨rfl,rfl,rfl⟩ -
         refine qa0 hτ rfl rfl rfl<|qaf hτ rfl rfl rfl<|qa4 ?_
         refine qa8 (wk [0,1,2,3,4] (l:=[(0,.ptr 0 0),(2,.ptr 1 0),(3,.ptr 2 0),(4,iv (w64 ((1:Int) + x90.1))),(5,iv v188),(6,.ptr 4 0)]) (objs:=[.box [sv qal x314.2.code,iv x314.2.at_,.d (.int .u64 x314.2.seed)],.box [.d (.cx .f32 (0:Nat) (0:Nat)),.d (.cx .f32 (0:Nat) (0:Nat)),.d (.cx .f32 (0:Nat) (0:Nat)),.d (.nils)],.box [cxv v87,cxv v88,cxv v89,.row 3 v187.length 0 v187.length],.row 8 (v187.map qae),.box [iv x314.1,.d (.cx .f32 (0:Nat) (0:Nat)),.d (.cx .f32 (0:Nat) (0:Nat)),iv (0:Int),.d (.cx .f32 (0:Nat) (0:Nat)),.d (.cx .f32 (0:Nat) (0:Nat)),.d (.cx .f32 (0:Nat) (0:Nat)),iv (0:Int)]])) ?_
         exact hk311 (x314.2.code,x314.2.at_,x314.2.seed,x314.1) h
        ·have h:=qcu h hc313
         refine qb1 ?_
         refine qa8 (wk [0,1,2,3,4] (l:=[(0,.ptr 0 0),(2,.ptr 1 0),(3,.ptr 2 0),(4,iv (w64 ((1:Int) + x90.1))),(5,iv v188),(6,.ptr 4 0)]) (objs:=[.box [sv qal x312.2.code,iv x312.2.at_,.d (.int .u64 x312.2.seed)],.box [.d (.cx .f32 (0:Nat) (0:Nat)),.d (.cx .f32 (0:Nat) (0:Nat)),.d (.cx .f32 (0:Nat) (0:Nat)),.d (.nils)],.box [cxv v87,cxv v88,cxv v89,.row 3 v187.length 0 v187.length],.row 8 (v187.map qae),.box [iv (w64 (v188 - (1:Int))),.d (.cx .f32 (0:Nat) (0:Nat)),.d (.cx .f32 (0:Nat) (0:Nat)),iv (0:Int),.d (.cx .f32 (0:Nat) (0:Nat)),.d (.cx .f32 (0:Nat) (0:Nat)),.d (.cx .f32 (0:Nat) (0:Nat)),iv (0:Int)]])) ?_
         exact hk311 (x312.2.code,x312.2.at_,x312.2.seed,(w64 (v188 - (1:Int)))) h
      ·have h:=if_f h hc297
       refine qb1 ?_
       refine qa8 (wk [0,1,2,3,4] (l:=[(0,.ptr 0 0),(2,.ptr 1 0),(3,.ptr 2 0),(4,iv (w64 ((1:Int) + x90.1))),(5,iv v188),(6,.ptr 4 0)]) (objs:=[.box [sv qal v184,iv v185,.d (.int .u64 v186)],.box [.d (.cx .f32 (0:Nat) (0:Nat)),.d (.cx .f32 (0:Nat) (0:Nat)),.d (.cx .f32 (0:Nat) (0:Nat)),.d (.nils)],.box [cxv v87,cxv v88,cxv v89,.row 3 v187.length 0 v187.length],.row 8 (v187.map qae),.box [iv (w64 (v188 - (1:Int))),.d (.cx .f32 (0:Nat) (0:Nat)),.d (.cx .f32 (0:Nat) (0:Nat)),iv (0:Int),.d (.cx .f32 (0:Nat) (0:Nat)),.d (.cx .f32 (0:Nat) (0:Nat)),.d (.cx .f32 (0:Nat) (0:Nat)),iv (0:Int)]])) ?_
       exact hk296 (v184,v185,v186,(w64 (v188 - (1:Int))),(Cx.mk (0:Nat) (0:Nat)),(Cx.mk (0:Nat) (0:Nat))) h
   ·have h:=if_f h hc222
    refine qe4 ?_
    refine qa8 (wk [0,1,2,3] (l:=[(2,.ptr 1 0),(3,.ptr 2 0)]) (objs:=[.box [sv qal v184,iv v185,.d (.int .u64 v186)],.box [.d (.cx .f32 (0:Nat) (0:Nat)),.d (.cx .f32 (0:Nat) (0:Nat)),.d (.cx .f32 (0:Nat) (0:Nat)),.d (.nils)],.box [cxv v87,cxv v88,cxv v89,.row 3 v187.length 0 v187.length],.row 8 (v187.map qae)])) ?_
    exact hk157 (v184,v185,v186,v187) h
 ·refine qa6<|qa6 ?_
  refine qa8 (wk [0,1,3,2] (l:=[(0,.ptr 0 0),(2,.ptr 1 0),(3,.ptr 2 0)]) (objs:=[.box [sv qal x74.2.code,iv x74.2.at_,.d (.int .u64 x74.2.seed)],.box [.d (.cx .f32 (0:Nat) (0:Nat)),.d (.cx .f32 (0:Nat) (0:Nat)),.d (.cx .f32 (0:Nat) (0:Nat)),.d (.nils)],.box [cxv x75.A,cxv x75.B,cxv x75.C,.row 3 (([]:List SBus).length) 0 (([]:List SBus).length)],.row 8 (([]:List SBus).map qae)])) ?_
  refine qa2<|qa0 hτ rfl rfl rfl ?_
  refine qag h fun x316 hx316 h=>?_
  refine qac hτ false [0] rfl rfl rfl (qai func62 rfl rfl) rfl rfl (by simp) ⟨trivial,trivial,trivial⟩ (by trivial) (qe2 n x74.2 (5:Int) hx316) ?_
  rintro r0 o0 n0 ⟨rfl,rfl,rfl⟩ -
  refine qa4 ?_
  refine qaw rfl (fun hc317=>?_) (fun hc317=>?_)
  ·have h:=qcv h hc317
   refine qa2<|qa0 hτ rfl rfl rfl ?_
   refine qag h fun x318 hx318 h=>?_
   refine qac hτ false [0] rfl rfl rfl (qai func65 rfl rfl) rfl rfl (by simp) ⟨trivial,trivial,trivial⟩ (by trivial) (qhx n x316.2 (40:Int) hx318) ?_
   rintro r0 o0 n0 ⟨rfl,rfl,rfl⟩ -
   refine qa0 hτ rfl rfl rfl<|qaf hτ rfl rfl rfl<|qa4 ?_
   refine qa8 (wk [0,1,2,3] (l:=[(0,.ptr 0 0),(2,.ptr 1 0),(3,.ptr 2 0)]) (objs:=[.box [sv qal x318.2.code,iv x318.2.at_,.d (.int .u64 x318.2.seed)],.box [.d (.cx .f32 (0:Nat) (0:Nat)),.d (.cx .f32 (0:Nat) (0:Nat)),.d (.cx .f32 (0:Nat) (0:Nat)),.d (.nils)],.box [cxv x318.1.A,cxv x318.1.B,cxv x318.1.C,.row 3 (([]:List SBus).length) 0 (([]:List SBus).length)],.row 8 (([]:List SBus).map qae)])) ?_
   exact hk315 (x318.2.code,x318.2.at_,x318.2.seed,x318.1.A,x318.1.B,x318.1.C) h
  ·have h:=qcu h hc317
   refine qb1 ?_
   refine qa8 (wk [0,1,2,3] (l:=[(0,.ptr 0 0),(2,.ptr 1 0),(3,.ptr 2 0)]) (objs:=[.box [sv qal x316.2.code,iv x316.2.at_,.d (.int .u64 x316.2.seed)],.box [.d (.cx .f32 (0:Nat) (0:Nat)),.d (.cx .f32 (0:Nat) (0:Nat)),.d (.cx .f32 (0:Nat) (0:Nat)),.d (.nils)],.box [cxv x75.A,cxv x75.B,cxv x75.C,.row 3 (([]:List SBus).length) 0 (([]:List SBus).length)],.row 8 (([]:List SBus).map qae)])) ?_
   exact hk315 (x316.2.code,x316.2.at_,x316.2.seed,x75.A,x75.B,x75.C) h
def qh0 (n:Nat) (x27:qb8 × qao) (v53:List Int) (v54:Int) (v55:Int) (v56:List STie):Option (qbg × qao) :=
 some ((qbg.mk (qb8.mk x27.1.Source x27.1.qa5) v56),(qao.mk v53 v54 v55))
def qh1 (n:Nat) (x27:qb8 × qao) (k84:List Int→Int→Int→List STie→Int→Option (qbg × qao)) (v66:List Int) (v67:Int) (v68:Int) (v69:List STie) (v70:Int):Option (qbg × qao) :=
 (qat n (qao.mk v66 v67 v68) (x27.1.qa5.length:Int)).bind fun x87 =>
 (qat n x87.2 (w64 ((x27.1.qa5.length:Int) - (1:Int)))).bind fun x88 =>
 grd ((x27.1.qa5.length:Int) ≠ 0) <|
 (qat n x88.2 (60:Int)).bind fun x90 =>
 grd (room (v69.length + 1) 40) <|
 k84 x90.2.code x90.2.at_ x90.2.seed (v69 ++ [(STie.mk x87.1 ((w64 ((w64 (x87.1 + (1:Int))) + x88.1)).tmod (x27.1.qa5.length:Int)) (Cx.mk (1048576000:Nat) (0:Nat)) (Cx.mk (0:Nat) (1031798784:Nat)) x90.1)]) (w64 (v70 - (1:Int)))
def qeh (n:Nat) (x27:qb8 × qao) (k84:List Int→Int→Int→List STie→Int→Option (qbg × qao)) (v66:List Int) (v67:Int) (v68:Int) (v69:List STie) (v70:Int) (v95:Bool):Option (qbg × qao) :=
 if v95 = true then
  qh1 n x27 k84 v66 v67 v68 v69 v70
 else
  qh0 n x27 v66 v67 v68 v69
def qbr (n:Nat) (x27:qb8 × qao):Nat→List Int→Int→Int→List STie→Int→Option (qbg × qao)
 | 0,_,_,_,_,_=>none
 | m83 + 1,v66,v67,v68,v69,v70 =>
  if v70 > (0:Int) then
   qeh n x27 (qbr n x27 m83) v66 v67 v68 v69 v70 (decide ((x27.1.qa5.length:Int) > (1:Int)))
  else
   qeh n x27 (qbr n x27 m83) v66 v67 v68 v69 v70 false
def qj7 (n:Nat) (s_:qao):Option (qbg × qao) :=
 (qj5 n s_).bind fun x27 =>
 (qat n x27.2 (5:Int)).bind fun x58 =>
 qbr n x27 n x58.2.code x58.2.at_ x58.2.seed ([]:List STie) x58.1
theorem spec_l08DrawOk_ok (n:Nat) (s_:qao) {r:qbg × qao} (h:qj7 n s_ = some r):qax prog false 35 [.ptr 0 0] [.box [sv qal s_.code,iv s_.at_,.d (.int .u64 s_.seed)]] (fun v o new=>v = .agg [cxv r.1.qa1.Source.A,cxv r.1.qa1.Source.B,cxv r.1.qa1.Source.C,.row 1 r.1.qa1.qa5.length 0 r.1.qa1.qa5.length,.row 2 r.1.Ties.length 0 r.1.Ties.length]∧o = [.box [sv qal r.2.code,iv r.2.at_,.d (.int .u64 r.2.seed)]]∧new = [.row 8 (r.1.qa1.qa5.map qae),.row 5 (r.1.Ties.map qah)]):=by
 refine qaj hτ func35 rfl (by simp) (by simp) ?_
 unfold qj7 at h
 refine qa6<|qa2<|qaf hτ rfl rfl rfl<|qa4<|qa6<|qa2<|qa0 hτ rfl rfl rfl ?_
 refine qag h fun x27 hx27 h=>?_
 refine qac hτ false [0] rfl rfl rfl (qai func60 rfl rfl) rfl rfl (by simp) ⟨trivial,trivial⟩ (by trivial) (spec_l02DrawOk_ok n s_ hx27) ?_
 rintro r0 o0 n0 ⟨rfl,rfl,rfl⟩ -
 refine qaf hτ rfl rfl rfl<|qa0 hτ rfl rfl rfl<|qaf hτ rfl rfl rfl<|qaf hτ rfl rfl rfl<|qa4<|qa6 ?_
 refine qa8 (wk [0,1,4,2,3] (l:=[(0,.ptr 0 0),(2,.ptr 1 0),(3,.ptr 2 0)]) (objs:=[.box [sv qal x27.2.code,iv x27.2.at_,.d (.int .u64 x27.2.seed)],.box [.d (.cx .f32 (0:Nat) (0:Nat)),.d (.cx .f32 (0:Nat) (0:Nat)),.d (.cx .f32 (0:Nat) (0:Nat)),.d (.nils),.d (.nils)],.box [cxv x27.1.Source.A,cxv x27.1.Source.B,cxv x27.1.Source.C,.row 3 x27.1.qa5.length 0 x27.1.qa5.length,.row 4 (([]:List STie).length) 0 (([]:List STie).length)],.row 8 (x27.1.qa5.map qae),.row 5 (([]:List STie).map qah)])) ?_
 refine qa2<|qa0 hτ rfl rfl rfl<|qa0 hτ rfl rfl rfl<|qa0 hτ rfl rfl rfl ?_
 refine qdp hτ rfl rfl rfl (qco _) ?_
 refine qa0 hτ rfl rfl rfl<|qa4 ?_
 refine qbn (ι:=List Int × Int × Int × List STie) (fun (v53,v54,v55,v56)=>St.of [(2,.ptr 1 0),(3,.ptr 2 0)] [.box [sv qal v53,iv v54,.d (.int .u64 v55)],.box [.d (.cx .f32 (0:Nat) (0:Nat)),.d (.cx .f32 (0:Nat) (0:Nat)),.d (.cx .f32 (0:Nat) (0:Nat)),.d (.nils),.d (.nils)],.box [cxv x27.1.Source.A,cxv x27.1.Source.B,cxv x27.1.Source.C,.row 3 x27.1.qa5.length 0 x27.1.qa5.length,.row 4 v56.length 0 v56.length],.row 8 (x27.1.qa5.map qae),.row 5 (v56.map qah)] f35.ntmps 1) (fun (v53,v54,v55,v56)=>qh0 n x27 v53 v54 v55 v56 = some r) ?_ (fun hk57=>?_)
 ·rintro ⟨v53,v54,v55,v56⟩ h
  replace h:qh0 n x27 v53 v54 v55 v56 = some r:=h
  unfold qh0 at h
  refine qa6<|qa2<|qa0 hτ rfl rfl rfl<|qaf hτ rfl rfl rfl<|qa4 ?_
  refine qa8 (wk [0,1,3,4] (l:=[(2,.ptr 1 0)]) (objs:=[.box [sv qal v53,iv v54,.d (.int .u64 v55)],.box [cxv x27.1.Source.A,cxv x27.1.Source.B,cxv x27.1.Source.C,.row 2 x27.1.qa5.length 0 x27.1.qa5.length,.row 3 v56.length 0 v56.length],.row 8 (x27.1.qa5.map qae),.row 5 (v56.map qah)])) ?_
  refine qaq ?_
  have hr:=Option.some.inj h
  subst hr
  exact qb0 (.inr rfl) [2,3] (objs':=[.box [sv qal v53,iv v54,.d (.int .u64 v55)]]) (new:=[.row 8 (x27.1.qa5.map qae),.row 5 (v56.map qah)]) rfl (by simp) (by simp) rfl (by trivial) rfl rfl (by trivial) (fun h=>nomatch h) ⟨rfl,rfl,rfl⟩
 ·refine qa6<|qa6<|qa2<|qa0 hτ rfl rfl rfl ?_
  refine qag h fun x58 hx58 h=>?_
  refine qac hτ false [0] rfl rfl rfl (qai func36 rfl rfl) rfl rfl (by simp) ⟨trivial,trivial,trivial⟩ (by trivial) (qb2 n x27.2 (5:Int) hx58) ?_
  rintro r0 o0 n0 ⟨rfl,rfl,rfl⟩ -
  refine qa0 hτ rfl rfl rfl<|qa4<|qb9 ?_
  refine qev (ι:=Nat × List Int × Int × Int × List STie × Int) (fun (m83,v66,v67,v68,v69,v70)=>St.of [(0,.ptr 0 0),(2,.ptr 1 0),(3,.ptr 2 0),(4,iv (x27.1.qa5.length:Int)),(5,iv v70)] [.box [sv qal v66,iv v67,.d (.int .u64 v68)],.box [.d (.cx .f32 (0:Nat) (0:Nat)),.d (.cx .f32 (0:Nat) (0:Nat)),.d (.cx .f32 (0:Nat) (0:Nat)),.d (.nils),.d (.nils)],.box [cxv x27.1.Source.A,cxv x27.1.Source.B,cxv x27.1.Source.C,.row 3 x27.1.qa5.length 0 x27.1.qa5.length,.row 4 v69.length 0 v69.length],.row 8 (x27.1.qa5.map qae),.row 5 (v69.map qah)] f35.ntmps 1) (fun (m83,v66,v67,v68,v69,v70)=>qbr n x27 m83 v66 v67 v68 v69 v70 = some r) (fun x=>x.1) (n,x58.2.code,x58.2.at_,x58.2.seed,([]:List STie),x58.1) h (wk [0,1,2,3,4] (l:=[(0,.ptr 0 0),(2,.ptr 1 0),(3,.ptr 2 0),(4,iv (x27.1.qa5.length:Int)),(5,iv x58.1)]) (objs:=[.box [sv qal x58.2.code,iv x58.2.at_,.d (.int .u64 x58.2.seed)],.box [.d (.cx .f32 (0:Nat) (0:Nat)),.d (.cx .f32 (0:Nat) (0:Nat)),.d (.cx .f32 (0:Nat) (0:Nat)),.d (.nils),.d (.nils)],.box [cxv x27.1.Source.A,cxv x27.1.Source.B,cxv x27.1.Source.C,.row 3 x27.1.qa5.length 0 x27.1.qa5.length,.row 4 (([]:List STie).length) 0 (([]:List STie).length)],.row 8 (x27.1.qa5.map qae),.row 5 (([]:List STie).map qah)])) ?_
  rintro ⟨m83,v66,v67,v68,v69,v70⟩ h
  replace h:qbr n x27 m83 v66 v67 v68 v69 v70 = some r:=h
  rcases m83 with _ | m83
  ·rw [qbr] at h;cases h
  rw [qbr] at h
  refine qbn (ι:=Unit) (fun _=>St.of [(0,.ptr 0 0),(2,.ptr 1 0),(3,.ptr 2 0),(4,iv (x27.1.qa5.length:Int)),(5,iv v70)] [.box [sv qal v66,iv v67,.d (.int .u64 v68)],.box [.d (.cx .f32 (0:Nat) (0:Nat)),.d (.cx .f32 (0:Nat) (0:Nat)),.d (.cx .f32 (0:Nat) (0:Nat)),.d (.nils),.d (.nils)],.box [cxv x27.1.Source.A,cxv x27.1.Source.B,cxv x27.1.Source.C,.row 3 x27.1.qa5.length 0 x27.1.qa5.length,.row 4 v69.length 0 v69.length],.row 8 (x27.1.qa5.map qae),.row 5 (v69.map qah)] f35.ntmps 1) (fun _=>qh1 n x27 (qbr n x27 m83) v66 v67 v68 v69 v70 = some r) ?_ (fun hk92=>?_)
  ·rintro ⟨⟩ h
   replace h:qh1 n x27 (qbr n x27 m83) v66 v67 v68 v69 v70 = some r:=h
   unfold qh1 at h
   refine qa6<|qb9<|qa6<|qa2<|qa0 hτ rfl rfl rfl<|qa0 hτ rfl rfl rfl ?_
   refine qag h fun x87 hx87 h=>?_
   refine qac hτ false [0] rfl rfl rfl (qai func36 rfl rfl) rfl rfl (by simp) ⟨trivial,trivial,trivial⟩ (by trivial) (qb2 n (qao.mk v66 v67 v68) (x27.1.qa5.length:Int) hx87) ?_
   rintro r0 o0 n0 ⟨rfl,rfl,rfl⟩ -
   refine qa0 hτ rfl rfl rfl<|qaf hτ rfl rfl rfl<|qaf hτ rfl rfl rfl<|qa4<|qa6 ?_
   refine qa8 (wk [0,1,2,3,4,5] (l:=[(0,.ptr 0 0),(2,.ptr 1 0),(3,.ptr 2 0),(4,iv (x27.1.qa5.length:Int)),(5,iv v70),(6,.ptr 5 0)]) (objs:=[.box [sv qal x87.2.code,iv x87.2.at_,.d (.int .u64 x87.2.seed)],.box [.d (.cx .f32 (0:Nat) (0:Nat)),.d (.cx .f32 (0:Nat) (0:Nat)),.d (.cx .f32 (0:Nat) (0:Nat)),.d (.nils),.d (.nils)],.box [cxv x27.1.Source.A,cxv x27.1.Source.B,cxv x27.1.Source.C,.row 3 x27.1.qa5.length 0 x27.1.qa5.length,.row 4 v69.length 0 v69.length],.row 8 (x27.1.qa5.map qae),.row 5 (v69.map qah),.box [iv x87.1,iv (0:Int),.d (.cx .f32 (0:Nat) (0:Nat)),.d (.cx .f32 (0:Nat) (0:Nat)),iv (0:Int)]])) ?_
   refine qd4 ?_
   refine qab hτ [5] 0 rfl rfl rfl rfl rfl ?_
   refine qab hτ [5] 1 rfl rfl rfl rfl rfl ?_
   refine qab hτ [] 2 rfl rfl rfl rfl rfl ?_
   refine qab hτ [] 3 rfl rfl rfl rfl rfl ?_
   refine qab hτ [] 4 rfl rfl rfl rfl rfl ?_
   refine qab hτ [] 5 rfl rfl rfl rfl rfl ?_
   refine qab hτ [] 8 rfl rfl rfl rfl rfl ?_
   refine qag h fun x88 hx88 h=>?_
   refine qcy hτ false [0] [1,2,3,4,5] 6 rfl rfl rfl rfl (qai func36 rfl rfl) rfl rfl (by simp) ⟨trivial,trivial,trivial⟩ (by trivial) (qb2 n x87.2 (w64 ((x27.1.qa5.length:Int) - (1:Int))) hx88) ⟨rfl,rfl,rfl,rfl,rfl,trivial⟩ ?_
   refine qab hτ [] 7 rfl rfl rfl rfl rfl ?_
   refine qcr h fun hg89 h=>?_
   refine qfj hτ [] 9 rfl rfl rfl rfl rfl hg89 ?_
   refine qab hτ [5] 10 rfl rfl rfl rfl rfl ?_
   refine qbj hτ [0,1,2,3,4] 11 rfl rfl rfl rfl ⟨rfl,rfl,rfl,rfl,rfl,trivial⟩ ?_
   refine qcs mixed (by kernel_rfl) ?_
   refine qa6 ?_
   refine qa8 (wk [0,1,2,3,4,5] (l:=[(0,.ptr 0 0),(2,.ptr 1 0),(3,.ptr 2 0),(4,iv (x27.1.qa5.length:Int)),(5,iv v70),(6,.ptr 5 0)]) (objs:=[.box [sv qal x88.2.code,iv x88.2.at_,.d (.int .u64 x88.2.seed)],.box [.d (.cx .f32 (0:Nat) (0:Nat)),.d (.cx .f32 (0:Nat) (0:Nat)),.d (.cx .f32 (0:Nat) (0:Nat)),.d (.nils),.d (.nils)],.box [cxv x27.1.Source.A,cxv x27.1.Source.B,cxv x27.1.Source.C,.row 3 x27.1.qa5.length 0 x27.1.qa5.length,.row 4 v69.length 0 v69.length],.row 8 (x27.1.qa5.map qae),.row 5 (v69.map qah),.box [iv x87.1,iv ((w64 ((w64 (x87.1 + (1:Int))) + x88.1)).tmod (x27.1.qa5.length:Int)),.d (.cx .f32 (0:Nat) (0:Nat)),.d (.cx .f32 (0:Nat) (0:Nat)),iv (0:Int)]])) ?_
   refine qa2<|qa0 hτ rfl rfl rfl<|qaf hτ rfl rfl rfl<|qa4<|qa6<|qa2<|qa0 hτ rfl rfl rfl<|qaf hτ rfl rfl rfl ?_
   refine qa4<|qa6<|qa2<|qa0 hτ rfl rfl rfl ?_
   refine qag h fun x90 hx90 h=>?_
   refine qac hτ false [0] rfl rfl rfl (qai func36 rfl rfl) rfl rfl (by simp) ⟨trivial,trivial,trivial⟩ (by trivial) (qb2 n x88.2 (60:Int) hx90) ?_
   rintro r0 o0 n0 ⟨rfl,rfl,rfl⟩ -
   refine qa0 hτ rfl rfl rfl<|qaf hτ rfl rfl rfl<|qa4 ?_
   refine qa8 (wk [0,1,2,3,4,5] (l:=[(0,.ptr 0 0),(2,.ptr 1 0),(3,.ptr 2 0),(4,iv (x27.1.qa5.length:Int)),(5,iv v70),(6,.ptr 5 0)]) (objs:=[.box [sv qal x90.2.code,iv x90.2.at_,.d (.int .u64 x90.2.seed)],.box [.d (.cx .f32 (0:Nat) (0:Nat)),.d (.cx .f32 (0:Nat) (0:Nat)),.d (.cx .f32 (0:Nat) (0:Nat)),.d (.nils),.d (.nils)],.box [cxv x27.1.Source.A,cxv x27.1.Source.B,cxv x27.1.Source.C,.row 3 x27.1.qa5.length 0 x27.1.qa5.length,.row 4 v69.length 0 v69.length],.row 8 (x27.1.qa5.map qae),.row 5 (v69.map qah),.box [iv x87.1,iv ((w64 ((w64 (x87.1 + (1:Int))) + x88.1)).tmod (x27.1.qa5.length:Int)),.d (.cx .f32 (1048576000:Nat) (0:Nat)),.d (.cx .f32 (0:Nat) (1031798784:Nat)),iv x90.1]])) ?_
   refine qa2<|qa0 hτ rfl rfl rfl<|qa0 hτ rfl rfl rfl<|qa0 hτ rfl rfl rfl<|qaf hτ rfl rfl rfl ?_
   refine qcr h fun hg91 h=>?_
   refine qk4 hτ rfl rfl (Eq.trans rfl (or_append (f:=qah) v69 [(STie.mk x87.1 ((w64 ((w64 (x87.1 + (1:Int))) + x88.1)).tmod (x27.1.qa5.length:Int)) (Cx.mk (1048576000:Nat) (0:Nat)) (Cx.mk (0:Nat) (1031798784:Nat)) x90.1)] rfl)) ⟨⟨rfl,Nat.le_of_ble_eq_true rfl⟩,qco _,rfl,rfl,hg91,by decide,(all1 rfl)⟩ ?_
   refine qa0 hτ rfl rfl rfl<|qaf hτ rfl rfl rfl<|qa4 ?_
   refine qa8 (wk [0,1,2,3,4] (l:=[(0,.ptr 0 0),(2,.ptr 1 0),(3,.ptr 2 0),(4,iv (x27.1.qa5.length:Int)),(5,iv v70)]) (objs:=[.box [sv qal x90.2.code,iv x90.2.at_,.d (.int .u64 x90.2.seed)],.box [.d (.cx .f32 (0:Nat) (0:Nat)),.d (.cx .f32 (0:Nat) (0:Nat)),.d (.cx .f32 (0:Nat) (0:Nat)),.d (.nils),.d (.nils)],.box [cxv x27.1.Source.A,cxv x27.1.Source.B,cxv x27.1.Source.C,.row 3 x27.1.qa5.length 0 x27.1.qa5.length,.row 4 ((v69 ++ [(STie.mk x87.1 ((w64 ((w64 (x87.1 + (1:Int))) + x88.1)).tmod (x27.1.qa5.length:Int)) (Cx.mk (1048576000:Nat) (0:Nat)) (Cx.mk (0:Nat) (1031798784:Nat)) x90.1)]).length) 0 ((v69 ++ [(STie.mk x87.1 ((w64 ((w64 (x87.1 + (1:Int))) + x88.1)).tmod (x27.1.qa5.length:Int)) (Cx.mk (1048576000:Nat) (0:Nat)) (Cx.mk (0:Nat) (1031798784:Nat)) x90.1)]).length)],.row 8 (x27.1.qa5.map qae),.row 5 ((v69 ++ [(STie.mk x87.1 ((w64 ((w64 (x87.1 + (1:Int))) + x88.1)).tmod (x27.1.qa5.length:Int)) (Cx.mk (1048576000:Nat) (0:Nat)) (Cx.mk (0:Nat) (1031798784:Nat)) x90.1)]).map qah)])) ?_
   refine qa2<|qa0 hτ rfl rfl rfl<|qa0 hτ rfl rfl rfl<|qa0 hτ rfl rfl rfl<|qa4 ?_
   exact ⟨(m83,x90.2.code,x90.2.at_,x90.2.seed,(v69 ++ [(STie.mk x87.1 ((w64 ((w64 (x87.1 + (1:Int))) + x88.1)).tmod (x27.1.qa5.length:Int)) (Cx.mk (1048576000:Nat) (0:Nat)) (Cx.mk (0:Nat) (1031798784:Nat)) x90.1)]),(w64 (v70 - (1:Int)))),h,Nat.lt_succ_self m83,(wk [0,1,2,3,4] (l:=[(0,.ptr 0 0),(2,.ptr 1 0),(3,.ptr 2 0),(4,iv (x27.1.qa5.length:Int)),(5,iv (w64 (v70 - (1:Int))))]) (objs:=[.box [sv qal x90.2.code,iv x90.2.at_,.d (.int .u64 x90.2.seed)],.box [.d (.cx .f32 (0:Nat) (0:Nat)),.d (.cx .f32 (0:Nat) (0:Nat)),.d (.cx .f32 (0:Nat) (0:Nat)),.d (.nils),.d (.nils)],.box [cxv x27.1.Source.A,cxv x27.1.Source.B,cxv x27.1.Source.C,.row 3 x27.1.qa5.length 0 x27.1.qa5.length,.row 4 ((v69 ++ [(STie.mk x87.1 ((w64 ((w64 (x87.1 + (1:Int))) + x88.1)).tmod (x27.1.qa5.length:Int)) (Cx.mk (1048576000:Nat) (0:Nat)) (Cx.mk (0:Nat) (1031798784:Nat)) x90.1)]).length) 0 ((v69 ++ [(STie.mk x87.1 ((w64 ((w64 (x87.1 + (1:Int))) + x88.1)).tmod (x27.1.qa5.length:Int)) (Cx.mk (1048576000:Nat) (0:Nat)) (Cx.mk (0:Nat) (1031798784:Nat)) x90.1)]).length)],.row 8 (x27.1.qa5.map qae),.row 5 ((v69 ++ [(STie.mk x87.1 ((w64 ((w64 (x87.1 + (1:Int))) + x88.1)).tmod (x27.1.qa5.length:Int)) (Cx.mk (1048576000:Nat) (0:Nat)) (Cx.mk (0:Nat) (1031798784:Nat)) x90.1)]).map qah)]))⟩
  ·refine qa6 ?_
   refine qbn (ι:=Bool) (fun v95=>St.of [(0,.ptr 0 0),(2,.ptr 1 0),(3,.ptr 2 0),(4,iv (x27.1.qa5.length:Int)),(5,iv v70),(22,bv v95)] [.box [sv qal v66,iv v67,.d (.int .u64 v68)],.box [.d (.cx .f32 (0:Nat) (0:Nat)),.d (.cx .f32 (0:Nat) (0:Nat)),.d (.cx .f32 (0:Nat) (0:Nat)),.d (.nils),.d (.nils)],.box [cxv x27.1.Source.A,cxv x27.1.Source.B,cxv x27.1.Source.C,.row 3 x27.1.qa5.length 0 x27.1.qa5.length,.row 4 v69.length 0 v69.length],.row 8 (x27.1.qa5.map qae),.row 5 (v69.map qah)] f35.ntmps 1) (fun v95=>qeh n x27 (qbr n x27 m83) v66 v67 v68 v69 v70 v95 = some r) ?_ (fun hk97=>?_)
   ·rintro v95 h
    replace h:qeh n x27 (qbr n x27 m83) v66 v67 v68 v69 v70 v95 = some r:=h
    unfold qeh at h
    refine qaw rfl (fun hc96=>?_) (fun hc96=>?_)
    ·have h:=qcv h hc96
     refine qb1 ?_
     refine qa8 (wk [0,1,2,3,4] (l:=[(0,.ptr 0 0),(2,.ptr 1 0),(3,.ptr 2 0),(4,iv (x27.1.qa5.length:Int)),(5,iv v70)]) (objs:=[.box [sv qal v66,iv v67,.d (.int .u64 v68)],.box [.d (.cx .f32 (0:Nat) (0:Nat)),.d (.cx .f32 (0:Nat) (0:Nat)),.d (.cx .f32 (0:Nat) (0:Nat)),.d (.nils),.d (.nils)],.box [cxv x27.1.Source.A,cxv x27.1.Source.B,cxv x27.1.Source.C,.row 3 x27.1.qa5.length 0 x27.1.qa5.length,.row 4 v69.length 0 v69.length],.row 8 (x27.1.qa5.map qae),.row 5 (v69.map qah)])) ?_
     exact hk92 () h
    ·have h:=qcu h hc96
     refine qe4 ?_
     refine qa8 (wk [0,1,2,3,4] (l:=[(2,.ptr 1 0),(3,.ptr 2 0)]) (objs:=[.box [sv qal v66,iv v67,.d (.int .u64 v68)],.box [.d (.cx .f32 (0:Nat) (0:Nat)),.d (.cx .f32 (0:Nat) (0:Nat)),.d (.cx .f32 (0:Nat) (0:Nat)),.d (.nils),.d (.nils)],.box [cxv x27.1.Source.A,cxv x27.1.Source.B,cxv x27.1.Source.C,.row 3 x27.1.qa5.length 0 x27.1.qa5.length,.row 4 v69.length 0 v69.length],.row 8 (x27.1.qa5.map qae),.row 5 (v69.map qah)])) ?_
     exact hk57 (v66,v67,v68,v69) h
   ·refine qa6<|qa2<|qa0 hτ rfl rfl rfl<|qa0 hτ rfl rfl rfl<|qa0 hτ rfl rfl rfl ?_
    refine qay 19 rfl (fun hb98=>?_) (fun hb98=>?_)
    ·have h:=if_t h hb98
     refine qa0 hτ rfl rfl rfl<|qa0 hτ rfl rfl rfl<|qa0 hτ rfl rfl rfl<|qa4 ?_
     refine qa8 (wk [0,1,2,3,4] (l:=[(0,.ptr 0 0),(2,.ptr 1 0),(3,.ptr 2 0),(4,iv (x27.1.qa5.length:Int)),(5,iv v70),(22,bv (decide ((x27.1.qa5.length:Int) > (1:Int))))]) (objs:=[.box [sv qal v66,iv v67,.d (.int .u64 v68)],.box [.d (.cx .f32 (0:Nat) (0:Nat)),.d (.cx .f32 (0:Nat) (0:Nat)),.d (.cx .f32 (0:Nat) (0:Nat)),.d (.nils),.d (.nils)],.box [cxv x27.1.Source.A,cxv x27.1.Source.B,cxv x27.1.Source.C,.row 3 x27.1.qa5.length 0 x27.1.qa5.length,.row 4 v69.length 0 v69.length],.row 8 (x27.1.qa5.map qae),.row 5 (v69.map qah)])) ?_
     exact hk97 (decide ((x27.1.qa5.length:Int) > (1:Int))) h
    ·have h:=if_f h hb98
     refine qa3 rfl rfl<|qa3 rfl rfl<|qa0 hτ rfl rfl rfl<|qa4 ?_
     refine qa8 (wk [0,1,2,3,4] (l:=[(0,.ptr 0 0),(2,.ptr 1 0),(3,.ptr 2 0),(4,iv (x27.1.qa5.length:Int)),(5,iv v70),(22,bv false)]) (objs:=[.box [sv qal v66,iv v67,.d (.int .u64 v68)],.box [.d (.cx .f32 (0:Nat) (0:Nat)),.d (.cx .f32 (0:Nat) (0:Nat)),.d (.cx .f32 (0:Nat) (0:Nat)),.d (.nils),.d (.nils)],.box [cxv x27.1.Source.A,cxv x27.1.Source.B,cxv x27.1.Source.C,.row 3 x27.1.qa5.length 0 x27.1.qa5.length,.row 4 v69.length 0 v69.length],.row 8 (x27.1.qa5.map qae),.row 5 (v69.map qah)])) ?_
     exact hk97 false h
def qil (n:Nat) (n_:Int) (low_:Int) (high_:Int):Option Bool :=
 if n_ ≥ low_ then
  some (decide (n_ ≤ high_))
 else
  some false
theorem spec_l00In_ok_fr0 (fr:Bool) (n:Nat) (n_:Int) (low_:Int) (high_:Int) {r:Bool} (h:qil n n_ low_ high_ = some r):qax prog fr 89 [iv n_,iv low_,iv high_] [] (fun v o new=>v = (bv r)∧o = []∧new = []):=by
 refine qaj hτ func89 rfl (by simp) (by simp) ?_
 unfold qil at h
 refine qa6<|qa2<|qa0 hτ rfl rfl rfl<|qa4<|qa6<|qa2<|qa0 hτ rfl rfl rfl<|qa0 hτ rfl rfl rfl ?_
 refine qa0 hτ rfl rfl rfl<|qa0 hτ rfl rfl rfl ?_
 refine qay 10 rfl (fun hb3=>?_) (fun hb3=>?_)
 ·have h:=if_t h hb3
  refine qa0 hτ rfl rfl rfl<|qa0 hτ rfl rfl rfl<|qa0 hτ rfl rfl rfl<|qa0 hτ rfl rfl rfl<|qa0 hτ rfl rfl rfl<|qa4 ?_
  refine qa8 (wk [] (l:=[(6,bv (decide (n_ ≤ high_)))]) (objs:=[])) ?_
  refine qaq ?_
  have hr:=Option.some.inj h
  subst hr
  exact rt0 rfl rfl ⟨rfl,rfl,rfl⟩
 ·have h:=if_f h hb3
  refine qa3 rfl rfl<|qa3 rfl rfl<|qa3 rfl rfl<|qa0 hτ rfl rfl rfl<|qa0 hτ rfl rfl rfl<|qa4 ?_
  refine qa8 (wk [] (l:=[(6,bv false)]) (objs:=[])) ?_
  refine qaq ?_
  have hr:=Option.some.inj h
  subst hr
  exact rt0 rfl rfl ⟨rfl,rfl,rfl⟩
theorem qmz (n:Nat) (n_:Int) (low_:Int) (high_:Int) {r:Bool} (h:qil n n_ low_ high_ = some r):qax prog false 89 [iv n_,iv low_,iv high_] [] (fun v o new=>v = (bv r)∧o = []∧new = []):=spec_l00In_ok_fr0 false n n_ low_ high_ h
def qh9 (n:Nat) (b_:SBus) (index_:Int):Option Bool :=
 if index_ = (0:Int) then
  if b_.qb4 = (-1:Int) then
   if (fcmp .eql .f32 b_.Own.re (0:Nat) && fcmp .eql .f32 b_.Own.im (0:Nat)) = true then
    some (fcmp .eql .f32 b_.Shared.re (0:Nat) && fcmp .eql .f32 b_.Shared.im (0:Nat))
   else
    some false
  else
   some false
 else
  (qil n b_.qb4 (0:Int) (w64 (index_ - (1:Int)))).bind fun x21 =>
  some x21
def qgb (n:Nat) (b_:SBus) (index_:Int) (v27:Bool):Option Bool :=
 if v27 = true then
  some false
 else
  qh9 n b_ index_
def qjw (n:Nat) (b_:SBus) (index_:Int):Option Bool :=
 (qil n b_.Kind (0:Int) (2:Int)).bind fun x30 =>
 if x30 = true then
  (qil n b_.qas (0:Int) (1000000:Int)).bind fun x32 =>
  qgb n b_ index_ (!x32)
 else
  qgb n b_ index_ true
theorem spec_l02Bus_ok_fr0 (fr:Bool) (n:Nat) (b_:SBus) (index_:Int) {r:Bool} (h:qjw n b_ index_ = some r):qax prog fr 77 [.rop [.int .i64 b_.qb4,cd b_.Own,cd b_.Shared,.int .i64 b_.Kind,cd b_.Load.A,cd b_.Load.B,cd b_.Load.C,.int .i64 b_.qas] 0,iv index_] [] (fun v o new=>v = (bv r)∧o = []∧new = []):=by
 refine qaj hτ func77 rfl (by simp) (by simp) ?_
 unfold qjw at h
 refine qa6<|qa2<|qa0 hτ rfl rfl rfl<|qa4 ?_
 refine qbn (ι:=Unit) (fun _=>St.of [(0,.rop [.int .i64 b_.qb4,cd b_.Own,cd b_.Shared,.int .i64 b_.Kind,cd b_.Load.A,cd b_.Load.B,cd b_.Load.C,.int .i64 b_.qas] 0),(1,iv index_)] [] f77.ntmps 0) (fun _=>qh9 n b_ index_ = some r) ?_ (fun hk22=>?_)
 ·rintro ⟨⟩ h
  replace h:qh9 n b_ index_ = some r:=h
  unfold qh9 at h
  refine qa6<|qa6<|qa2<|qa0 hτ rfl rfl rfl ?_
  refine qa0 hτ (v:=bv (decide (index_ = (0:Int)))) rfl rfl (qim _ _) ?_
  refine qa4 ?_
  refine qaw rfl (fun hc18=>?_) (fun hc18=>?_)
  ·have h:=if_t h hc18
   refine qa6<|qa2<|qa0 hτ rfl rfl rfl<|qa0 hτ rfl rfl rfl<|qa0 hτ rfl rfl rfl<|qa0 hτ rfl rfl rfl ?_
   refine qa0 hτ (v:=bv (decide (b_.qb4 = (-1:Int)))) rfl rfl (qim _ _) ?_
   refine qa0 hτ rfl rfl rfl ?_
   refine qay 26 rfl (fun hb19=>?_) (fun hb19=>?_)
   ·have h:=if_t h hb19
    refine qa0 hτ rfl rfl rfl<|qa0 hτ rfl rfl rfl<|qa0 hτ rfl rfl rfl<|qa0 hτ rfl rfl rfl ?_
    refine qar (wk [] (l:=[(0,.rop [.int .i64 b_.qb4,cd b_.Own,cd b_.Shared,.int .i64 b_.Kind,cd b_.Load.A,cd b_.Load.B,cd b_.Load.C,.int .i64 b_.qas] 0),(26,bv true),(30,cxv b_.Own)]) (objs:=[])) ?_
    refine qa0 hτ rfl rfl rfl<|qa0 hτ rfl rfl rfl<|qa0 hτ rfl rfl rfl ?_
    refine qay 33 rfl (fun hb20=>?_) (fun hb20=>?_)
    ·have h:=qcv h hb20
     refine qa0 hτ rfl rfl rfl<|qa0 hτ rfl rfl rfl<|qa0 hτ rfl rfl rfl<|qa0 hτ rfl rfl rfl<|qa0 hτ rfl rfl rfl<|qa0 hτ rfl rfl rfl<|qa0 hτ rfl rfl rfl<|qa4 ?_
     refine qa8 (wk [] (l:=[(4,bv (fcmp .eql .f32 b_.Shared.re (0:Nat) && fcmp .eql .f32 b_.Shared.im (0:Nat)))]) (objs:=[])) ?_
     refine qaq ?_
     have hr:=Option.some.inj h
     subst hr
     exact rt0 rfl rfl ⟨rfl,rfl,rfl⟩
    ·have h:=qcu h hb20
     refine qa3 rfl rfl<|qa3 rfl rfl<|qa3 rfl rfl<|qa3 rfl rfl<|qa3 rfl rfl<|qa0 hτ rfl rfl rfl<|qa0 hτ rfl rfl rfl<|qa4 ?_
     refine qa8 (wk [] (l:=[(4,bv false)]) (objs:=[])) ?_
     refine qaq ?_
     have hr:=Option.some.inj h
     subst hr
     exact rt0 rfl rfl ⟨rfl,rfl,rfl⟩
   ·have h:=if_f h hb19
    refine qa3 rfl rfl<|qa3 rfl rfl<|qa3 rfl rfl<|qa3 rfl rfl ?_
    refine qar (wk [] (l:=[(0,.rop [.int .i64 b_.qb4,cd b_.Own,cd b_.Shared,.int .i64 b_.Kind,cd b_.Load.A,cd b_.Load.B,cd b_.Load.C,.int .i64 b_.qas] 0),(26,bv false),(30,.und)]) (objs:=[])) ?_
    refine qa3 rfl rfl<|qa0 hτ rfl rfl rfl<|qa0 hτ rfl rfl rfl<|qa3 rfl rfl<|qa3 rfl rfl<|qa3 rfl rfl<|qa3 rfl rfl<|qa3 rfl rfl ?_
    refine qa0 hτ rfl rfl rfl<|qa0 hτ rfl rfl rfl<|qa4 ?_
    refine qa8 (wk [] (l:=[(4,bv false)]) (objs:=[])) ?_
    refine qaq ?_
    have hr:=Option.some.inj h
    subst hr
    exact rt0 rfl rfl ⟨rfl,rfl,rfl⟩
  ·have h:=if_f h hc18
   refine qb1<|qa6<|qa2<|qa0 hτ rfl rfl rfl<|qa0 hτ rfl rfl rfl<|qa0 hτ rfl rfl rfl<|qa0 hτ rfl rfl rfl<|qa0 hτ rfl rfl rfl ?_
   refine qa0 hτ rfl rfl rfl ?_
   refine qag h fun x21 hx21 h=>?_
   refine qac hτ false [] rfl rfl rfl (qai func89 rfl rfl) rfl rfl (by simp) ⟨trivial,trivial,trivial,trivial⟩ (by trivial) (qmz n b_.qb4 (0:Int) (w64 (index_ - (1:Int))) hx21) ?_
   rintro r0 o0 n0 ⟨rfl,rfl,rfl⟩ -
   refine qa0 hτ rfl rfl rfl<|qa4 ?_
   refine qa8 (wk [] (l:=[(4,bv x21)]) (objs:=[])) ?_
   refine qaq ?_
   have hr:=Option.some.inj h
   subst hr
   exact rt0 rfl rfl ⟨rfl,rfl,rfl⟩
 ·refine qa6 ?_
  refine qbn (ι:=Bool) (fun v27=>St.of [(0,.rop [.int .i64 b_.qb4,cd b_.Own,cd b_.Shared,.int .i64 b_.Kind,cd b_.Load.A,cd b_.Load.B,cd b_.Load.C,.int .i64 b_.qas] 0),(1,iv index_),(18,bv v27)] [] f77.ntmps 0) (fun v27=>qgb n b_ index_ v27 = some r) ?_ (fun hk29=>?_)
  ·rintro v27 h
   replace h:qgb n b_ index_ v27 = some r:=h
   unfold qgb at h
   refine qaw rfl (fun hc28=>?_) (fun hc28=>?_)
   ·have h:=qcv h hc28
    refine qa6<|qa2<|qa0 hτ rfl rfl rfl<|qa4 ?_
    refine qa8 (wk [] (l:=[(4,bv false)]) (objs:=[])) ?_
    refine qaq ?_
    have hr:=Option.some.inj h
    subst hr
    exact rt0 rfl rfl ⟨rfl,rfl,rfl⟩
   ·have h:=qcu h hc28
    refine qb1 ?_
    refine qa8 (wk [] (l:=[(0,.rop [.int .i64 b_.qb4,cd b_.Own,cd b_.Shared,.int .i64 b_.Kind,cd b_.Load.A,cd b_.Load.B,cd b_.Load.C,.int .i64 b_.qas] 0),(1,iv index_)]) (objs:=[])) ?_
    exact hk22 () h
  ·refine qa6<|qa2<|qa0 hτ rfl rfl rfl<|qa0 hτ rfl rfl rfl<|qa0 hτ rfl rfl rfl<|qa0 hτ rfl rfl rfl ?_
   refine qag h fun x30 hx30 h=>?_
   refine qac hτ false [] rfl rfl rfl (qai func89 rfl rfl) rfl rfl (by simp) ⟨trivial,trivial,trivial,trivial⟩ (by trivial) (qmz n b_.Kind (0:Int) (2:Int) hx30) ?_
   rintro r0 o0 n0 ⟨rfl,rfl,rfl⟩ -
   refine qa0 hτ rfl rfl rfl<|qa0 hτ rfl rfl rfl ?_
   refine qay 11 rfl (fun hb31=>?_) (fun hb31=>?_)
   ·have hb31:=qi4 hb31
    have h:=qcu h hb31
    refine qa3 rfl rfl<|qa3 rfl rfl<|qa3 rfl rfl<|qa3 rfl rfl ?_
    refine qar (wk [] (l:=[(0,.rop [.int .i64 b_.qb4,cd b_.Own,cd b_.Shared,.int .i64 b_.Kind,cd b_.Load.A,cd b_.Load.B,cd b_.Load.C,.int .i64 b_.qas] 0),(1,iv index_),(11,bv true),(15,.und)]) (objs:=[])) ?_
    refine qa3 rfl rfl<|qa3 rfl rfl<|qa0 hτ rfl rfl rfl<|qa4 ?_
    refine qa8 (wk [] (l:=[(0,.rop [.int .i64 b_.qb4,cd b_.Own,cd b_.Shared,.int .i64 b_.Kind,cd b_.Load.A,cd b_.Load.B,cd b_.Load.C,.int .i64 b_.qas] 0),(1,iv index_),(18,bv true)]) (objs:=[])) ?_
    exact hk29 true h
   ·have hb31:=qi3 hb31
    have h:=qcv h hb31
    refine qa0 hτ rfl rfl rfl<|qa0 hτ rfl rfl rfl<|qa0 hτ rfl rfl rfl<|qa0 hτ rfl rfl rfl ?_
    refine qar (wk [] (l:=[(0,.rop [.int .i64 b_.qb4,cd b_.Own,cd b_.Shared,.int .i64 b_.Kind,cd b_.Load.A,cd b_.Load.B,cd b_.Load.C,.int .i64 b_.qas] 0),(1,iv index_),(11,bv false),(15,iv b_.qas)]) (objs:=[])) ?_
    refine qag h fun x32 hx32 h=>?_
    refine qac hτ false [] rfl rfl rfl (qai func89 rfl rfl) rfl rfl (by simp) ⟨trivial,trivial,trivial,trivial⟩ (by trivial) (qmz n b_.qas (0:Int) (1000000:Int) hx32) ?_
    rintro r0 o0 n0 ⟨rfl,rfl,rfl⟩ -
    refine qa0 hτ rfl rfl rfl<|qa0 hτ rfl rfl rfl<|qa4 ?_
    refine qa8 (wk [] (l:=[(0,.rop [.int .i64 b_.qb4,cd b_.Own,cd b_.Shared,.int .i64 b_.Kind,cd b_.Load.A,cd b_.Load.B,cd b_.Load.C,.int .i64 b_.qas] 0),(1,iv index_),(18,bv (!x32))]) (objs:=[])) ?_
    exact hk29 (!x32) h
theorem spec_l02Bus_ok (n:Nat) (b_:SBus) (index_:Int) {r:Bool} (h:qjw n b_ index_ = some r):qax prog false 77 [.rop [.int .i64 b_.qb4,cd b_.Own,cd b_.Shared,.int .i64 b_.Kind,cd b_.Load.A,cd b_.Load.B,cd b_.Load.C,.int .i64 b_.qas] 0,iv index_] [] (fun v o new=>v = (bv r)∧o = []∧new = []):=spec_l02Bus_ok_fr0 false n b_ index_ h
def qer (n:Nat) (f_:qan):Nat→Int→Option Bool
 | 0,_=>none
 | m17 + 1,v13 =>
  if v13 < (f_.Grid.qa1.qa5.length:Int) then
   (getI f_.Grid.qa1.qa5 v13).bind fun x22 =>
   (qjw n x22 v13).bind fun x23 =>
   if x23 = true then
    (qer n f_ m17) (w64 (v13 + (1:Int)))
   else
    some false
  else
   some true
def qjx (n:Nat) (f_:qan):Option Bool :=
 qer n f_ n (0:Int)
def qfh (n:Nat) (f_:qan) (v28:Bool):Option Bool :=
 if v28 = true then
  some false
 else
  qjx n f_
def qjb (n:Nat) (f_:qan):Option Bool :=
 if (f_.Grid.qa1.qa5.length:Int) < (1:Int) then
  qfh n f_ true
 else
  qfh n f_ (decide ((f_.Grid.qa1.qa5.length:Int) > (16:Int)))
theorem spec_l02Is_2_ok (n:Nat) (f_:qan) {r:Bool} (h:qjb n f_ = some r):qax prog false 63 [.ptr 0 0] [.box [cxv f_.Grid.qa1.Source.A,cxv f_.Grid.qa1.Source.B,cxv f_.Grid.qa1.Source.C,sv qae f_.Grid.qa1.qa5,.row 1 f_.Grid.Ties.length 0 f_.Grid.Ties.length,.row 2 f_.qa9.length 0 f_.qa9.length],.row 5 (f_.Grid.Ties.map qah),.row 4 (f_.qa9.map qad)] (fun v o new=>v = (bv r)∧o = [.box [cxv f_.Grid.qa1.Source.A,cxv f_.Grid.qa1.Source.B,cxv f_.Grid.qa1.Source.C,sv qae f_.Grid.qa1.qa5,.row 1 f_.Grid.Ties.length 0 f_.Grid.Ties.length,.row 2 f_.qa9.length 0 f_.qa9.length],.row 5 (f_.Grid.Ties.map qah),.row 4 (f_.qa9.map qad)]∧new = []):=by
 refine qaj hτ func63 rfl (by simp) (by simp) ?_
 unfold qjb at h
 refine qa6<|qa2<|qa0 hτ rfl rfl rfl<|qa4 ?_
 refine qbn (ι:=Unit) (fun _=>St.of [(0,.ptr 0 0)] [.box [cxv f_.Grid.qa1.Source.A,cxv f_.Grid.qa1.Source.B,cxv f_.Grid.qa1.Source.C,sv qae f_.Grid.qa1.qa5,.row 1 f_.Grid.Ties.length 0 f_.Grid.Ties.length,.row 2 f_.qa9.length 0 f_.qa9.length],.row 5 (f_.Grid.Ties.map qah),.row 4 (f_.qa9.map qad)] f63.ntmps 3) (fun _=>qjx n f_ = some r) ?_ (fun hk25=>?_)
 ·rintro ⟨⟩ h
  replace h:qjx n f_ = some r:=h
  unfold qjx at h
  refine qa6<|qa6<|qa2<|qa0 hτ rfl rfl rfl<|qa4<|qb9 ?_
  refine qev (ι:=Nat × Int) (fun (m17,v13)=>St.of [(0,.ptr 0 0),(3,iv v13)] [.box [cxv f_.Grid.qa1.Source.A,cxv f_.Grid.qa1.Source.B,cxv f_.Grid.qa1.Source.C,sv qae f_.Grid.qa1.qa5,.row 1 f_.Grid.Ties.length 0 f_.Grid.Ties.length,.row 2 f_.qa9.length 0 f_.qa9.length],.row 5 (f_.Grid.Ties.map qah),.row 4 (f_.qa9.map qad)] f63.ntmps 3) (fun (m17,v13)=>qer n f_ m17 v13 = some r) (fun x=>x.1) (n,(0:Int)) h (wk [0,1,2] (l:=[(0,.ptr 0 0),(3,iv (0:Int))]) (objs:=[.box [cxv f_.Grid.qa1.Source.A,cxv f_.Grid.qa1.Source.B,cxv f_.Grid.qa1.Source.C,sv qae f_.Grid.qa1.qa5,.row 1 f_.Grid.Ties.length 0 f_.Grid.Ties.length,.row 2 f_.qa9.length 0 f_.qa9.length],.row 5 (f_.Grid.Ties.map qah),.row 4 (f_.qa9.map qad)])) ?_
  rintro ⟨m17,v13⟩ h
  replace h:qer n f_ m17 v13 = some r:=h
  rcases m17 with _ | m17
  ·rw [qer] at h;cases h
  rw [qer] at h
  refine qa6<|qa6<|qa2<|qa0 hτ rfl rfl rfl<|qa0 hτ rfl rfl rfl<|qa0 hτ rfl rfl rfl<|qa0 hτ rfl rfl rfl<|qa0 hτ rfl rfl rfl ?_
  refine qa0 hτ (v:=iv (f_.Grid.qa1.qa5.length:Int)) rfl rfl (Eq.trans rfl (qf1 (f:=qae) f_.Grid.qa1.qa5)) ?_
  refine qa0 hτ rfl rfl rfl<|qa4 ?_
  refine qa8 (wk [0,1,2] (l:=[(0,.ptr 0 0),(3,iv v13),(24,bv (decide (v13 < (f_.Grid.qa1.qa5.length:Int))))]) (objs:=[.box [cxv f_.Grid.qa1.Source.A,cxv f_.Grid.qa1.Source.B,cxv f_.Grid.qa1.Source.C,sv qae f_.Grid.qa1.qa5,.row 1 f_.Grid.Ties.length 0 f_.Grid.Ties.length,.row 2 f_.qa9.length 0 f_.qa9.length],.row 5 (f_.Grid.Ties.map qah),.row 4 (f_.qa9.map qad)])) ?_
  refine qaw rfl (fun hc19=>?_) (fun hc19=>?_)
  ·have h:=if_t h hc19
   refine qb1<|qa6<|qb9<|qa6<|qa2<|qa0 hτ rfl rfl rfl<|qa0 hτ rfl rfl rfl<|qa0 hτ rfl rfl rfl ?_
   refine qa0 hτ rfl rfl rfl<|qa0 hτ rfl rfl rfl ?_
   refine qag h fun x22 hx22 h=>?_
   refine qgh hτ rfl rfl rfl (qcw hx22).1 (qe7 hx22) rfl ?_
   refine qa0 hτ rfl rfl rfl ?_
   refine qag h fun x23 hx23 h=>?_
   refine qac hτ false [] rfl rfl rfl (qai func77 rfl rfl) rfl rfl (by simp) ⟨trivial,trivial,trivial⟩ (by trivial) (spec_l02Bus_ok n x22 v13 hx23) ?_
   rintro r0 o0 n0 ⟨rfl,rfl,rfl⟩ -
   refine qa0 hτ rfl rfl rfl<|qa4 ?_
   refine qa8 (wk [0,1,2] (l:=[(0,.ptr 0 0),(3,iv v13),(35,bv (!x23))]) (objs:=[.box [cxv f_.Grid.qa1.Source.A,cxv f_.Grid.qa1.Source.B,cxv f_.Grid.qa1.Source.C,sv qae f_.Grid.qa1.qa5,.row 1 f_.Grid.Ties.length 0 f_.Grid.Ties.length,.row 2 f_.qa9.length 0 f_.qa9.length],.row 5 (f_.Grid.Ties.map qah),.row 4 (f_.qa9.map qad)])) ?_
   refine qaw rfl (fun hc24=>?_) (fun hc24=>?_)
   ·have hc24:=qi4 hc24
    have h:=qcu h hc24
    refine qa6<|qa2<|qa0 hτ rfl rfl rfl<|qa4 ?_
    refine qa8 (wk [0,1,2] (l:=[(2,bv false)]) (objs:=[.box [cxv f_.Grid.qa1.Source.A,cxv f_.Grid.qa1.Source.B,cxv f_.Grid.qa1.Source.C,sv qae f_.Grid.qa1.qa5,.row 1 f_.Grid.Ties.length 0 f_.Grid.Ties.length,.row 2 f_.qa9.length 0 f_.qa9.length],.row 5 (f_.Grid.Ties.map qah),.row 4 (f_.qa9.map qad)])) ?_
    refine qaq ?_
    have hr:=Option.some.inj h
    subst hr
    exact qb0 (.inr rfl) [] (objs':=[.box [cxv f_.Grid.qa1.Source.A,cxv f_.Grid.qa1.Source.B,cxv f_.Grid.qa1.Source.C,sv qae f_.Grid.qa1.qa5,.row 1 f_.Grid.Ties.length 0 f_.Grid.Ties.length,.row 2 f_.qa9.length 0 f_.qa9.length],.row 5 (f_.Grid.Ties.map qah),.row 4 (f_.qa9.map qad)]) (new:=[]) rfl (by simp) (by simp) rfl (by trivial) rfl rfl (by trivial) (fun h=>nomatch h) ⟨rfl,rfl,rfl⟩
   ·have hc24:=qi3 hc24
    have h:=qcv h hc24
    refine qb1<|qa2<|qa0 hτ rfl rfl rfl<|qa0 hτ rfl rfl rfl<|qa0 hτ rfl rfl rfl<|qa4 ?_
    exact ⟨(m17,(w64 (v13 + (1:Int)))),h,Nat.lt_succ_self m17,(wk [0,1,2] (l:=[(0,.ptr 0 0),(3,iv (w64 (v13 + (1:Int))))]) (objs:=[.box [cxv f_.Grid.qa1.Source.A,cxv f_.Grid.qa1.Source.B,cxv f_.Grid.qa1.Source.C,sv qae f_.Grid.qa1.qa5,.row 1 f_.Grid.Ties.length 0 f_.Grid.Ties.length,.row 2 f_.qa9.length 0 f_.qa9.length],.row 5 (f_.Grid.Ties.map qah),.row 4 (f_.qa9.map qad)]))⟩
  ·have h:=if_f h hc19
   refine qe4<|qa6<|qa2<|qa0 hτ rfl rfl rfl<|qa4 ?_
   refine qa8 (wk [0,1,2] (l:=[(2,bv true)]) (objs:=[.box [cxv f_.Grid.qa1.Source.A,cxv f_.Grid.qa1.Source.B,cxv f_.Grid.qa1.Source.C,sv qae f_.Grid.qa1.qa5,.row 1 f_.Grid.Ties.length 0 f_.Grid.Ties.length,.row 2 f_.qa9.length 0 f_.qa9.length],.row 5 (f_.Grid.Ties.map qah),.row 4 (f_.qa9.map qad)])) ?_
   refine qaq ?_
   have hr:=Option.some.inj h
   subst hr
   exact qb0 (.inr rfl) [] (objs':=[.box [cxv f_.Grid.qa1.Source.A,cxv f_.Grid.qa1.Source.B,cxv f_.Grid.qa1.Source.C,sv qae f_.Grid.qa1.qa5,.row 1 f_.Grid.Ties.length 0 f_.Grid.Ties.length,.row 2 f_.qa9.length 0 f_.qa9.length],.row 5 (f_.Grid.Ties.map qah),.row 4 (f_.qa9.map qad)]) (new:=[]) rfl (by simp) (by simp) rfl (by trivial) rfl rfl (by trivial) (fun h=>nomatch h) ⟨rfl,rfl,rfl⟩
 ·refine qa6 ?_
  refine qbn (ι:=Bool) (fun v28=>St.of [(0,.ptr 0 0),(17,bv v28)] [.box [cxv f_.Grid.qa1.Source.A,cxv f_.Grid.qa1.Source.B,cxv f_.Grid.qa1.Source.C,sv qae f_.Grid.qa1.qa5,.row 1 f_.Grid.Ties.length 0 f_.Grid.Ties.length,.row 2 f_.qa9.length 0 f_.qa9.length],.row 5 (f_.Grid.Ties.map qah),.row 4 (f_.qa9.map qad)] f63.ntmps 3) (fun v28=>qfh n f_ v28 = some r) ?_ (fun hk30=>?_)
  ·rintro v28 h
   replace h:qfh n f_ v28 = some r:=h
   unfold qfh at h
   refine qaw rfl (fun hc29=>?_) (fun hc29=>?_)
   ·have h:=qcv h hc29
    refine qa6<|qa2<|qa0 hτ rfl rfl rfl<|qa4 ?_
    refine qa8 (wk [0,1,2] (l:=[(2,bv false)]) (objs:=[.box [cxv f_.Grid.qa1.Source.A,cxv f_.Grid.qa1.Source.B,cxv f_.Grid.qa1.Source.C,sv qae f_.Grid.qa1.qa5,.row 1 f_.Grid.Ties.length 0 f_.Grid.Ties.length,.row 2 f_.qa9.length 0 f_.qa9.length],.row 5 (f_.Grid.Ties.map qah),.row 4 (f_.qa9.map qad)])) ?_
    refine qaq ?_
    have hr:=Option.some.inj h
    subst hr
    exact qb0 (.inr rfl) [] (objs':=[.box [cxv f_.Grid.qa1.Source.A,cxv f_.Grid.qa1.Source.B,cxv f_.Grid.qa1.Source.C,sv qae f_.Grid.qa1.qa5,.row 1 f_.Grid.Ties.length 0 f_.Grid.Ties.length,.row 2 f_.qa9.length 0 f_.qa9.length],.row 5 (f_.Grid.Ties.map qah),.row 4 (f_.qa9.map qad)]) (new:=[]) rfl (by simp) (by simp) rfl (by trivial) rfl rfl (by trivial) (fun h=>nomatch h) ⟨rfl,rfl,rfl⟩
   ·have h:=qcu h hc29
    refine qb1 ?_
    refine qa8 (wk [0,1,2] (l:=[(0,.ptr 0 0)]) (objs:=[.box [cxv f_.Grid.qa1.Source.A,cxv f_.Grid.qa1.Source.B,cxv f_.Grid.qa1.Source.C,sv qae f_.Grid.qa1.qa5,.row 1 f_.Grid.Ties.length 0 f_.Grid.Ties.length,.row 2 f_.qa9.length 0 f_.qa9.length],.row 5 (f_.Grid.Ties.map qah),.row 4 (f_.qa9.map qad)])) ?_
    exact hk25 () h
  ·refine qa6<|qa2<|qa0 hτ rfl rfl rfl<|qa0 hτ rfl rfl rfl<|qa0 hτ rfl rfl rfl<|qa0 hτ rfl rfl rfl ?_
   refine qa0 hτ (v:=iv (f_.Grid.qa1.qa5.length:Int)) rfl rfl (Eq.trans rfl (qf1 (f:=qae) f_.Grid.qa1.qa5)) ?_
   refine qa0 hτ rfl rfl rfl<|qa0 hτ rfl rfl rfl ?_
   refine qay 10 rfl (fun hb31=>?_) (fun hb31=>?_)
   ·have h:=if_t h hb31
    refine qa3 rfl rfl<|qa3 rfl rfl<|qa3 rfl rfl<|qa3 rfl rfl ?_
    refine qar (wk [0,1,2] (l:=[(0,.ptr 0 0),(10,bv true),(14,.und)]) (objs:=[.box [cxv f_.Grid.qa1.Source.A,cxv f_.Grid.qa1.Source.B,cxv f_.Grid.qa1.Source.C,sv qae f_.Grid.qa1.qa5,.row 1 f_.Grid.Ties.length 0 f_.Grid.Ties.length,.row 2 f_.qa9.length 0 f_.qa9.length],.row 5 (f_.Grid.Ties.map qah),.row 4 (f_.qa9.map qad)])) ?_
    refine qa3 rfl rfl<|qa3 rfl rfl<|qa0 hτ rfl rfl rfl<|qa4 ?_
    refine qa8 (wk [0,1,2] (l:=[(0,.ptr 0 0),(17,bv true)]) (objs:=[.box [cxv f_.Grid.qa1.Source.A,cxv f_.Grid.qa1.Source.B,cxv f_.Grid.qa1.Source.C,sv qae f_.Grid.qa1.qa5,.row 1 f_.Grid.Ties.length 0 f_.Grid.Ties.length,.row 2 f_.qa9.length 0 f_.qa9.length],.row 5 (f_.Grid.Ties.map qah),.row 4 (f_.qa9.map qad)])) ?_
    exact hk30 true h
   ·have h:=if_f h hb31
    refine qa0 hτ rfl rfl rfl<|qa0 hτ rfl rfl rfl<|qa0 hτ rfl rfl rfl<|qa0 hτ rfl rfl rfl ?_
    refine qar (wk [0,1,2] (l:=[(0,.ptr 0 0),(10,bv false),(14,sv qae f_.Grid.qa1.qa5)]) (objs:=[.box [cxv f_.Grid.qa1.Source.A,cxv f_.Grid.qa1.Source.B,cxv f_.Grid.qa1.Source.C,sv qae f_.Grid.qa1.qa5,.row 1 f_.Grid.Ties.length 0 f_.Grid.Ties.length,.row 2 f_.qa9.length 0 f_.qa9.length],.row 5 (f_.Grid.Ties.map qah),.row 4 (f_.qa9.map qad)])) ?_
    refine qa0 hτ (v:=iv (f_.Grid.qa1.qa5.length:Int)) rfl rfl (Eq.trans rfl (qf1 (f:=qae) f_.Grid.qa1.qa5)) ?_
    refine qa0 hτ rfl rfl rfl<|qa0 hτ rfl rfl rfl<|qa4 ?_
    refine qa8 (wk [0,1,2] (l:=[(0,.ptr 0 0),(17,bv (decide ((f_.Grid.qa1.qa5.length:Int) > (16:Int))))]) (objs:=[.box [cxv f_.Grid.qa1.Source.A,cxv f_.Grid.qa1.Source.B,cxv f_.Grid.qa1.Source.C,sv qae f_.Grid.qa1.qa5,.row 1 f_.Grid.Ties.length 0 f_.Grid.Ties.length,.row 2 f_.qa9.length 0 f_.qa9.length],.row 5 (f_.Grid.Ties.map qah),.row 4 (f_.qa9.map qad)])) ?_
    exact hk30 (decide ((f_.Grid.qa1.qa5.length:Int) > (16:Int))) h
def qet (n:Nat) (f_:qan):Nat→List qaa→Int→Option (List qaa)
 | 0,_,_=>none
 | m13 + 1,v8,v9 =>
  if v9 < (f_.Grid.qa1.qa5.length:Int) then
   grd (room (v8.length + 1) 24) <|
   (qet n f_ m13) (v8 ++ [f_.Grid.qa1.Source]) (w64 (v9 + (1:Int)))
  else
   some v8
def qk9 (n:Nat) (f_:qan):Option (List qaa) :=
 qet n f_ n ([]:List qaa) (0:Int)
theorem spec_l03Flat_ok (n:Nat) (f_:qan) {r:List qaa} (h:qk9 n f_ = some r):qax prog false 78 [.ptr 0 0] [.box [cxv f_.Grid.qa1.Source.A,cxv f_.Grid.qa1.Source.B,cxv f_.Grid.qa1.Source.C,sv qae f_.Grid.qa1.qa5,.row 1 f_.Grid.Ties.length 0 f_.Grid.Ties.length,.row 2 f_.qa9.length 0 f_.qa9.length],.row 5 (f_.Grid.Ties.map qah),.row 4 (f_.qa9.map qad)] (fun v o new=>v = .row 3 r.length 0 r.length∧o = [.box [cxv f_.Grid.qa1.Source.A,cxv f_.Grid.qa1.Source.B,cxv f_.Grid.qa1.Source.C,sv qae f_.Grid.qa1.qa5,.row 1 f_.Grid.Ties.length 0 f_.Grid.Ties.length,.row 2 f_.qa9.length 0 f_.qa9.length],.row 5 (f_.Grid.Ties.map qah),.row 4 (f_.qa9.map qad)]∧new = [.row 3 (r.map qa7)]):=by
 refine qaj hτ func78 rfl (by simp) (by simp) ?_
 unfold qk9 at h
 refine qa6<|qa2<|qa0 hτ rfl rfl rfl<|qa4<|qa6<|qa2<|qaf hτ rfl rfl rfl<|qa0 hτ rfl rfl rfl ?_
 refine qa4<|qa6<|qa6<|qa2<|qa0 hτ rfl rfl rfl<|qa0 hτ rfl rfl rfl<|qa0 hτ rfl rfl rfl<|qa0 hτ rfl rfl rfl ?_
 refine qa0 hτ (v:=iv (f_.Grid.qa1.qa5.length:Int)) rfl rfl (Eq.trans rfl (qf1 (f:=qae) f_.Grid.qa1.qa5)) ?_
 refine qa0 hτ rfl rfl rfl<|qa4<|qb9 ?_
 refine qev (ι:=Nat × List qaa × Int) (fun (m13,v8,v9)=>St.of [(0,.ptr 0 0),(3,.row 3 v8.length 0 v8.length),(9,iv (f_.Grid.qa1.qa5.length:Int)),(10,iv v9)] [.box [cxv f_.Grid.qa1.Source.A,cxv f_.Grid.qa1.Source.B,cxv f_.Grid.qa1.Source.C,sv qae f_.Grid.qa1.qa5,.row 1 f_.Grid.Ties.length 0 f_.Grid.Ties.length,.row 2 f_.qa9.length 0 f_.qa9.length],.row 5 (f_.Grid.Ties.map qah),.row 4 (f_.qa9.map qad),.row 3 (v8.map qa7)] f78.ntmps 3) (fun (m13,v8,v9)=>qet n f_ m13 v8 v9 = some r) (fun x=>x.1) (n,([]:List qaa),(0:Int)) h (wk [0,1,2,3] (l:=[(0,.ptr 0 0),(3,.row 3 (([]:List qaa).length) 0 (([]:List qaa).length)),(9,iv (f_.Grid.qa1.qa5.length:Int)),(10,iv (0:Int))]) (objs:=[.box [cxv f_.Grid.qa1.Source.A,cxv f_.Grid.qa1.Source.B,cxv f_.Grid.qa1.Source.C,sv qae f_.Grid.qa1.qa5,.row 1 f_.Grid.Ties.length 0 f_.Grid.Ties.length,.row 2 f_.qa9.length 0 f_.qa9.length],.row 5 (f_.Grid.Ties.map qah),.row 4 (f_.qa9.map qad),.row 3 (([]:List qaa).map qa7)])) ?_
 rintro ⟨m13,v8,v9⟩ h
 replace h:qet n f_ m13 v8 v9 = some r:=h
 rcases m13 with _ | m13
 ·rw [qet] at h;cases h
 rw [qet] at h
 refine qa6<|qa2<|qa0 hτ rfl rfl rfl<|qa4<|qa6 ?_
 refine qaw rfl (fun hc15=>?_) (fun hc15=>?_)
 ·have h:=if_t h hc15
  refine qb1<|qa6<|qb9<|qa2<|qa0 hτ rfl rfl rfl<|qa0 hτ rfl rfl rfl<|qa0 hτ rfl rfl rfl<|qa0 hτ rfl rfl rfl ?_
  refine qa0 hτ rfl rfl rfl<|qaf hτ rfl rfl rfl ?_
  refine qcr h fun hg16 h=>?_
  refine qk4 hτ rfl rfl (Eq.trans rfl (or_append (f:=qa7) v8 [f_.Grid.qa1.Source] rfl)) ⟨⟨rfl,Nat.le_of_ble_eq_true rfl⟩,qco _,rfl,rfl,hg16,by decide,(all1 rfl)⟩ ?_
  refine qa0 hτ rfl rfl rfl<|qa4 ?_
  refine qa8 (wk [0,1,2,3] (l:=[(0,.ptr 0 0),(3,.row 3 ((v8 ++ [f_.Grid.qa1.Source]).length) 0 ((v8 ++ [f_.Grid.qa1.Source]).length)),(9,iv (f_.Grid.qa1.qa5.length:Int)),(10,iv v9)]) (objs:=[.box [cxv f_.Grid.qa1.Source.A,cxv f_.Grid.qa1.Source.B,cxv f_.Grid.qa1.Source.C,sv qae f_.Grid.qa1.qa5,.row 1 f_.Grid.Ties.length 0 f_.Grid.Ties.length,.row 2 f_.qa9.length 0 f_.qa9.length],.row 5 (f_.Grid.Ties.map qah),.row 4 (f_.qa9.map qad),.row 3 ((v8 ++ [f_.Grid.qa1.Source]).map qa7)])) ?_
  refine qa2<|qa0 hτ rfl rfl rfl<|qa0 hτ rfl rfl rfl<|qa4 ?_
  exact ⟨(m13,(v8 ++ [f_.Grid.qa1.Source]),(w64 (v9 + (1:Int)))),h,Nat.lt_succ_self m13,(wk [0,1,2,3] (l:=[(0,.ptr 0 0),(3,.row 3 ((v8 ++ [f_.Grid.qa1.Source]).length) 0 ((v8 ++ [f_.Grid.qa1.Source]).length)),(9,iv (f_.Grid.qa1.qa5.length:Int)),(10,iv (w64 (v9 + (1:Int))))]) (objs:=[.box [cxv f_.Grid.qa1.Source.A,cxv f_.Grid.qa1.Source.B,cxv f_.Grid.qa1.Source.C,sv qae f_.Grid.qa1.qa5,.row 1 f_.Grid.Ties.length 0 f_.Grid.Ties.length,.row 2 f_.qa9.length 0 f_.qa9.length],.row 5 (f_.Grid.Ties.map qah),.row 4 (f_.qa9.map qad),.row 3 ((v8 ++ [f_.Grid.qa1.Source]).map qa7)]))⟩
 ·have h:=if_f h hc15
  refine qe4<|qa6<|qa2<|qa0 hτ rfl rfl rfl<|qa0 hτ rfl rfl rfl<|qa4 ?_
  refine qa8 (wk [0,1,2,3] (l:=[(2,.row 3 v8.length 0 v8.length)]) (objs:=[.box [cxv f_.Grid.qa1.Source.A,cxv f_.Grid.qa1.Source.B,cxv f_.Grid.qa1.Source.C,sv qae f_.Grid.qa1.qa5,.row 1 f_.Grid.Ties.length 0 f_.Grid.Ties.length,.row 2 f_.qa9.length 0 f_.qa9.length],.row 5 (f_.Grid.Ties.map qah),.row 4 (f_.qa9.map qad),.row 3 (v8.map qa7)])) ?_
  refine qaq ?_
  have hr:=Option.some.inj h
  subst hr
  exact qb0 (.inr rfl) [3] (objs':=[.box [cxv f_.Grid.qa1.Source.A,cxv f_.Grid.qa1.Source.B,cxv f_.Grid.qa1.Source.C,sv qae f_.Grid.qa1.qa5,.row 1 f_.Grid.Ties.length 0 f_.Grid.Ties.length,.row 2 f_.qa9.length 0 f_.qa9.length],.row 5 (f_.Grid.Ties.map qah),.row 4 (f_.qa9.map qad)]) (new:=[.row 3 (v8.map qa7)]) rfl (by simp) (by simp) rfl (by trivial) rfl rfl (by trivial) (fun h=>nomatch h) ⟨rfl,rfl,rfl⟩
def qi1 (n:Nat) (x_:Cx):Option Cx :=
 some (Cx.mk x_.re (fneg .f32 x_.im))
theorem spec_l01Conj_ok_fr0 (fr:Bool) (n:Nat) (x_:Cx) {r:Cx} (h:qi1 n x_ = some r):qax prog fr 115 [cxv x_] [] (fun v o new=>v = (cxv r)∧o = []∧new = []):=by
 refine qaj hτ func115 rfl (by simp) (by simp) ?_
 unfold qi1 at h
 refine qa6<|qa2<|qa0 hτ rfl rfl rfl<|qa4<|qa6<|qa2<|qa0 hτ rfl rfl rfl<|qa0 hτ rfl rfl rfl ?_
 refine qa0 hτ rfl rfl rfl<|qa0 hτ rfl rfl rfl<|qa0 hτ rfl rfl rfl<|qa0 hτ rfl rfl rfl<|qa0 hτ rfl rfl rfl<|qa4 ?_
 refine qa8 (wk [] (l:=[(2,.d (.cx .f32 x_.re (fneg .f32 x_.im)))]) (objs:=[])) ?_
 refine qaq ?_
 have hr:=Option.some.inj h
 subst hr
 exact rt0 rfl rfl ⟨rfl,rfl,rfl⟩
theorem qnk (n:Nat) (x_:Cx) {r:Cx} (h:qi1 n x_ = some r):qax prog false 115 [cxv x_] [] (fun v o new=>v = (cxv r)∧o = []∧new = []):=spec_l01Conj_ok_fr0 false n x_ h
def qd3 (n:Nat) (x_:Cx):Option Nat :=
 (qmu .f32 .f64 x_.re).bind fun x3 =>
 (qmu .f32 .f64 x_.im).bind fun x4 =>
 some (qam .add .f64 (qam .mul .f64 x3 x3) (qam .mul .f64 x4 x4))
theorem spec_l01PowerWide_ok_fr0 (fr:Bool) (n:Nat) (x_:Cx) {r:Nat} (h:qd3 n x_ = some r):qax prog fr 113 [cxv x_] [] (fun v o new=>v = .d (.fl .f64 r)∧o = []∧new = []):=by
 refine qaj hτ func113 rfl (by simp) (by simp) ?_
 unfold qd3 at h
 refine qa6<|qa2<|qa0 hτ rfl rfl rfl<|qa4<|qa6<|qa2<|qa0 hτ rfl rfl rfl<|qa0 hτ rfl rfl rfl ?_
 refine qag h fun x3 hx3 h=>?_
 refine qa0 hτ (v:=.d (.fl .f64 x3)) rfl rfl (qog hx3) ?_
 refine qa0 hτ rfl rfl rfl<|qa4<|qa6<|qa2<|qa0 hτ rfl rfl rfl<|qa0 hτ rfl rfl rfl ?_
 refine qag h fun x4 hx4 h=>?_
 refine qa0 hτ (v:=.d (.fl .f64 x4)) rfl rfl (qog hx4) ?_
 refine qa0 hτ rfl rfl rfl<|qa4<|qa6 ?_
 refine qa8 (wk [] (l:=[(3,.d (.fl .f64 x3)),(4,.d (.fl .f64 x4))]) (objs:=[])) ?_
 refine qa2<|qa0 hτ rfl rfl rfl<|qa0 hτ rfl rfl rfl<|qa0 hτ rfl rfl rfl<|qa0 hτ rfl rfl rfl<|qa0 hτ rfl rfl rfl<|qa0 hτ rfl rfl rfl<|qa0 hτ rfl rfl rfl ?_
 refine qa0 hτ rfl rfl rfl<|qa4 ?_
 refine qa8 (wk [] (l:=[(2,.d (.fl .f64 (qam .add .f64 (qam .mul .f64 x3 x3) (qam .mul .f64 x4 x4))))]) (objs:=[])) ?_
 refine qaq ?_
 have hr:=Option.some.inj h
 subst hr
 exact rt0 rfl rfl ⟨rfl,rfl,rfl⟩
theorem qlp (n:Nat) (x_:Cx) {r:Nat} (h:qd3 n x_ = some r):qax prog false 113 [cxv x_] [] (fun v o new=>v = .d (.fl .f64 r)∧o = []∧new = []):=spec_l01PowerWide_ok_fr0 false n x_ h
end Go.Proofs.YtiegopnofbgoaaaGreat.AWN
