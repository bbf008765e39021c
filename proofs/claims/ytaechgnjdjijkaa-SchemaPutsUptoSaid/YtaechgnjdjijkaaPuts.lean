/- SchemaPuts: walked. -/
import Derived.Test.YtaechgnjdjijkaaLends
import Derived.Test.YtaechgnjdjijkaaBacks
import Derived.Test.YtaechgnjdjijkaaData
namespace Go.Proofs.Ytaechgnjdjijkaa
open Go.RowKit Go.Lib

theorem own_grown {w w' : World} {B : Nat} {e : TypeId} {s n : Nat} {v : Value} {xs : List Value} {row : Option Nat} (h : w.ownsRow B e s v n xs) (hg : w.grownBy w' row) (hr : ∀ r, row = some r → v.ownBlock ≠ some r) : w'.ownsRow B e s v n xs :=
  own_heap h fun r hv => hg.block r (h.lt r hv).2 (fun e => hr r e.symm hv)
theorem own_apart {w w1 : World} {B1 B2 : Nat} {e e1 : TypeId} {s s1 n n1 : Nat} {v v1 : Value} {xs xs1 : List Value} (h1 : w1.ownsRow B1 e1 s1 v1 n1 xs1) (h : w.ownsRow B2 e s v n xs) (hB : w1.heap.size ≤ B2) : ∀ r, v1.ownBlock = some r → v.ownBlock ≠ some r := fun r hr hv => by
  have := (h1.lt r hr).2
  have := (h.lt r hv).1
  omega
set_option maxRecDepth 100000 in
set_option maxHeartbeats 2000000 in
theorem puts_any (c : Cf) (hf : c.Fit) (k : Kn) (hkf : k.Fit) (kv : Value) (W : World) (rk : Rk W kv k) (nk : k.key.size + 90 * k.ws.length + 2000 ≤ 4398046511104) (A3 : Option Addr) (m3 cap3 : Nat) (more : List UInt8) (hr3 : Rd W (.slice A3 m3 cap3) m3 (bc more)) (hm3 : more.length = m3) (hb3 : m3 ≤ 4398046511104) :
    Calls Try.prog 5 #[c.val, kv, .slice A3 m3 cap3] W fun e w' => e = .returned (.bool true) ∧ Below W.heap.size W w' := by
  have HKN := Lib.hid known_any
  have HNU := Lib.hid num_any
  have HLK : Hid (∀ w, Below W.heap.size W w → Calls Try.prog 21 #[kv] w fun e w' => ∃ v, e = .returned v ∧ Below w.heap.size w w' ∧ Lk w' v k) := Lib.hid fun w hb => LendKey_any k kv w (rk.below hb) (by omega)
  have HPUT : Hid (∀ w mv, Lk w mv k → Calls Try.prog 19 #[c.val, mv] w (PutAns w (putE c k) (keyBytes k))) := Lib.hid fun w mv h => Put_ans c hf k hkf mv w h.rk (by omega)
  have HSZ : Hid (∀ w mv, Lk w mv k → Calls Try.prog 22 #[c.val, mv] w fun e w' => ∃ q : Nat, e = .returned (.tuple #[.int .i64 (q : Int), .int .i64 (putE c k)]) ∧ (if putE c k = 0 then keyBytes k else []).length = q ∧ Below w.heap.size w w') := Lib.hid fun w mv h => (Size_any c hf k hkf mv w h.rk (by omega)).mono fun e w' ⟨h1, h2⟩ => ⟨_, h1.trans (by split <;> rfl), rfl, h2⟩
  have HRP : Hid (∀ w, Below W.heap.size W w → Calls Try.prog 23 #[c.val, kv] w (PutAns w (putE c k) (keyBytes k))) := Lib.hid fun w hb => refPut_any c hf k hkf kv w (rk.below hb) (by omega)
  have HKP : Hid (∀ w mv, Lk w mv k → Below W.heap.size W w → Calls Try.prog 24 #[mv, kv] w fun e w' => e = .returned (.bool true) ∧ Below w.heap.size w w') := Lib.hid fun w mv h hb => KeptKey_any k mv kv w h (rk.below hb)
  have HKY : Hid (∀ w v, Rk w v k → Below W.heap.size W w → Calls Try.prog 15 #[v, kv] w fun e w' => e = .returned (.bool true) ∧ Below w.heap.size w w') := Lib.hid fun w v h hb => by
    have h := kitKey_any k k v kv w h (rk.below hb)
    rwa [kEq_iff.2 rfl] at h
  have HRD : Hid (putE c k = 0 → ∀ (A : Option Addr) (m cap : Nat) (w : World), Rd w (.slice A m cap) m (bc (keyBytes k ++ more)) → (keyBytes k ++ more).length = m → m ≤ 8796093022208 → Calls Try.prog 10 #[c.val, .slice A m cap] w fun e w' => Below w.heap.size w w' ∧ ∃ A cap, e = .returned (.tuple #[.agg #[.string k.key, .int .i64 k.dr, .slice A k.ws.length cap], .int .i64 ((keyBytes k).length : Int), .int .i64 0]) ∧ w'.ownsRow w.heap.size 93 9 (.slice A k.ws.length cap) k.ws.length (wcells k.ws)) := Lib.hid fun he A m cap w hr h1 h2 => by
    have h := Read_any c hf (putE_ok he).1 A m cap _ w hr h1 h2
    rw [rdKey_back c k hkf he (by omega)] at h
    exact h
  have HSK : Hid (putE c k = 0 → ∀ (A : Option Addr) (m cap : Nat) (w : World), Rd w (.slice A m cap) m (bc (keyBytes k ++ more)) → (keyBytes k ++ more).length = m → m ≤ 140737488355328 → Calls Try.prog 11 #[.slice A m cap] w fun e w' => e = .returned (.tuple #[.string k.key, .int .i64 ((keyBytes k).length : Int), .int .i64 0]) ∧ Below w.heap.size w w') := Lib.hid fun he A m cap w hr h1 h2 => by
    have h := Skip_any A m cap _ w hr h1 h2
    rw [skTo_back _ k hkf (putE_ok he).2 (by omega)] at h
    exact h
  have HLEN : Hid (putE c k = 0 → (keyBytes k).length ≤ 4398046511104) := Lib.hid fun h => by have := keyBytes_len (putE_ok h).2 hkf (by omega); omega
  have hcap3 : m3 ≤ cap3 ∧ cap3 ≤ maxLen := by obtain ⟨_, _, hv, h1, h2, _⟩ := hr3; cases hv; exact ⟨h1, h2⟩
  unfold maxLen at hcap3
  obtain ⟨hcap31, hcap32⟩ := hcap3
  have HR3 := Lib.hid hr3
  have HM3 := Lib.hid hm3
  obtain ⟨z, hz⟩ : ∃ z, putE c k = z := ⟨_, rfl⟩
  obtain ⟨KB, hKB⟩ : ∃ KB, keyBytes k = KB := ⟨_, rfl⟩
  simp only [hz, hKB] at HPUT HSZ HRP HRD HSK HLEN
  clear hz hKB hf hkf hr3 hm3 nk
  obtain ⟨Ak, ck, rfl, hrk⟩ := rk
  have hck : k.ws.length ≤ ck ∧ ck ≤ maxLen := by obtain ⟨_, _, hv, h1, h2, _⟩ := hrk; cases hv; exact ⟨h1, h2⟩
  unfold maxLen at hck
  obtain ⟨hck1, hck2⟩ := hck
  have HSD : Hid (∀ w mv, Lk w mv k → ∃ Am cm, mv = .agg #[.string k.key, .int .i64 k.dr, .slice Am k.ws.length cm]) := Lib.hid fun w mv h => by
    obtain ⟨A, cap, h, -⟩ := h; exact ⟨A, cap, h⟩
  have HRR : Hid (∀ w A cap, Rd w (.slice A k.ws.length cap) k.ws.length (wcells k.ws) → Rk w (.agg #[.string k.key, .int .i64 k.dr, .slice A k.ws.length cap]) k) := Lib.hid fun w A cap h => ⟨A, cap, rfl, h⟩
  clear hrk
  obtain ⟨S, hS⟩ : ∃ S, k.key = S := ⟨_, rfl⟩
  obtain ⟨D, hD⟩ : ∃ D, k.dr = D := ⟨_, rfl⟩
  obtain ⟨n, hn⟩ : ∃ n, k.ws.length = n := ⟨_, rfl⟩
  simp only [hS, hD, hn] at HLK HRP HKP HKY HRD HSK HSD HRR hck1 ⊢
  clear hS hD hn
  unfold Cf.val at *
  go_enter Try.func5, Try.ntmps5
  go_wp2_with fail
  refine (HLK.out _ ((below_alloc W _).alloc (by simp) _)).mono ?_
  rintro e w0 ⟨mv, rfl, hb0, hlk0⟩
  obtain ⟨Am, cm, rfl⟩ := HSD.out _ _ hlk0
  have HC0 : Hid (Bk w0 W.heap.size 24 #[.int .i64 c.g, .int .i64 c.so, .int .i64 c.k, .int .i64 c.sz, .int .i64 c.sl, .int .i64 c.o, .int .i64 c.ga, .int .i64 c.la, .int .i64 c.ea, .bool c.di] ∧ Bk w0 (W.heap.size + 1) 29 #[.string S, .int .i64 D, .slice Ak n ck]) := Lib.hid ⟨((Bk.new W _ _).alloc _).below hb0, (Bk.new' _ _ _ _ (by simp)).below hb0⟩
  have HB0 : Hid (Below W.heap.size W w0) := Lib.hid (((below_alloc W _).alloc (by simp) _).trans (hb0.mono (by simp; omega)))
  have HLK0 := Lib.hid hlk0
  have hs0 : W.heap.size + 1 < w0.heap.size := HC0.out.2.lt
  clear hb0 hlk0 HLK HSD
  obtain ⟨w1, hw1⟩ : ∃ w1, w0.alloc (.cells #[.string S, .int .i64 D, .slice Am n cm] 29) = w1 := ⟨_, rfl⟩
  obtain ⟨gm, hgm⟩ : ∃ gm, w0.heap.size = gm := ⟨_, rfl⟩
  have HC : Hid (∀ w, Below w1.heap.size w1 w → Bk w W.heap.size 24 #[.int .i64 c.g, .int .i64 c.so, .int .i64 c.k, .int .i64 c.sz, .int .i64 c.sl, .int .i64 c.o, .int .i64 c.ga, .int .i64 c.la, .int .i64 c.ea, .bool c.di] ∧ Bk w (W.heap.size + 1) 29 #[.string S, .int .i64 D, .slice Ak n ck] ∧ Bk w gm 29 #[.string S, .int .i64 D, .slice Am n cm]) := Lib.hid fun w hb => by
    subst hw1 hgm
    exact ⟨(HC0.out.1.alloc _).below hb, (HC0.out.2.alloc _).below hb, (Bk.new _ _ _).below hb⟩
  have HL : Hid (∀ w, Below w1.heap.size w1 w → Lk w (.agg #[.string S, .int .i64 D, .slice Am n cm]) k) := Lib.hid fun w hb => by
    subst hw1; exact (HLK0.out.below (below_alloc _ _)).below hb
  have HB1 : Hid (∀ w, Below w1.heap.size w1 w → Below W.heap.size W w) := Lib.hid fun w hb => by
    subst hw1; exact below_trans (below_trans HB0.out (below_alloc _ _)) hb
  obtain ⟨xc, xk, xm⟩ := HC.out w1 (Below.refl _ _)
  have c0 : w1.cell? ⟨W.heap.size, 0, none⟩ = some (.int .i64 c.g) := xc.cell 0
  have c1 : w1.cell? ⟨W.heap.size, 1, none⟩ = some (.int .i64 c.so) := xc.cell 1
  have c2 : w1.cell? ⟨W.heap.size, 2, none⟩ = some (.int .i64 c.k) := xc.cell 2
  have c3 : w1.cell? ⟨W.heap.size, 3, none⟩ = some (.int .i64 c.sz) := xc.cell 3
  have c4 : w1.cell? ⟨W.heap.size, 4, none⟩ = some (.int .i64 c.sl) := xc.cell 4
  have c5 : w1.cell? ⟨W.heap.size, 5, none⟩ = some (.int .i64 c.o) := xc.cell 5
  have c6 : w1.cell? ⟨W.heap.size, 6, none⟩ = some (.int .i64 c.ga) := xc.cell 6
  have c7 : w1.cell? ⟨W.heap.size, 7, none⟩ = some (.int .i64 c.la) := xc.cell 7
  have c8 : w1.cell? ⟨W.heap.size, 8, none⟩ = some (.int .i64 c.ea) := xc.cell 8
  have c9 : w1.cell? ⟨W.heap.size, 9, none⟩ = some (.bool c.di) := xc.cell 9
  have m0 : w1.cell? ⟨gm, 0, none⟩ = some (.string S) := xm.cell 0
  have m1 : w1.cell? ⟨gm, 1, none⟩ = some (.int .i64 D) := xm.cell 1
  have m2 : w1.cell? ⟨gm, 2, none⟩ = some (.slice Am n cm) := xm.cell 2
  go_wp2_with fail
  clear HC0 HB0 HLK0 hw1 hgm hs0
  refine (HPUT.out w1 _ (HL.out _ (Below.refl _ _))).mono ?_
  rintro e w2 ⟨Aa, na, ca, rfl, hb2, ho2, hl2⟩
  have HB2 := Lib.hid hb2
  have HOA := Lib.hid ho2
  have HLA := Lib.hid hl2
  have hca : na ≤ ca ∧ ca ≤ maxLen := by obtain ⟨_, _, hv, h1, h2⟩ := ownsRow_shape ho2; cases hv; exact ⟨h1, h2⟩
  clear hb2 ho2 hl2 c0 c1 c2 c3 c4 c5 c6 c7 c8 c9 m0 m1 m2 xc xk xm
  obtain ⟨xc, xk, xm⟩ := HC.out w2 HB2.out
  have c0 : w2.cell? ⟨W.heap.size, 0, none⟩ = some (.int .i64 c.g) := xc.cell 0
  have c1 : w2.cell? ⟨W.heap.size, 1, none⟩ = some (.int .i64 c.so) := xc.cell 1
  have c2 : w2.cell? ⟨W.heap.size, 2, none⟩ = some (.int .i64 c.k) := xc.cell 2
  have c3 : w2.cell? ⟨W.heap.size, 3, none⟩ = some (.int .i64 c.sz) := xc.cell 3
  have c4 : w2.cell? ⟨W.heap.size, 4, none⟩ = some (.int .i64 c.sl) := xc.cell 4
  have c5 : w2.cell? ⟨W.heap.size, 5, none⟩ = some (.int .i64 c.o) := xc.cell 5
  have c6 : w2.cell? ⟨W.heap.size, 6, none⟩ = some (.int .i64 c.ga) := xc.cell 6
  have c7 : w2.cell? ⟨W.heap.size, 7, none⟩ = some (.int .i64 c.la) := xc.cell 7
  have c8 : w2.cell? ⟨W.heap.size, 8, none⟩ = some (.int .i64 c.ea) := xc.cell 8
  have c9 : w2.cell? ⟨W.heap.size, 9, none⟩ = some (.bool c.di) := xc.cell 9
  have m0 : w2.cell? ⟨gm, 0, none⟩ = some (.string S) := xm.cell 0
  have m1 : w2.cell? ⟨gm, 1, none⟩ = some (.int .i64 D) := xm.cell 1
  have m2 : w2.cell? ⟨gm, 2, none⟩ = some (.slice Am n cm) := xm.cell 2
  go_wp2_with fail
  refine (HPUT.out w2 _ (HL.out _ HB2.out)).mono ?_
  rintro e w3 ⟨Ab, nb, cb, rfl, hb3', ho3, hl3⟩
  have HB3 := Lib.hid (below_trans HB2.out hb3')
  have HB23 := Lib.hid hb3'
  have HOB := Lib.hid ho3
  have HLB := Lib.hid hl3
  have hcb : nb ≤ cb ∧ cb ≤ maxLen := by obtain ⟨_, _, hv, h1, h2⟩ := ownsRow_shape ho3; cases hv; exact ⟨h1, h2⟩
  clear hb3' ho3 hl3 c0 c1 c2 c3 c4 c5 c6 c7 c8 c9 m0 m1 m2 xc xk xm
  obtain ⟨xc, xk, xm⟩ := HC.out w3 HB3.out
  have c0 : w3.cell? ⟨W.heap.size, 0, none⟩ = some (.int .i64 c.g) := xc.cell 0
  have c1 : w3.cell? ⟨W.heap.size, 1, none⟩ = some (.int .i64 c.so) := xc.cell 1
  have c2 : w3.cell? ⟨W.heap.size, 2, none⟩ = some (.int .i64 c.k) := xc.cell 2
  have c3 : w3.cell? ⟨W.heap.size, 3, none⟩ = some (.int .i64 c.sz) := xc.cell 3
  have c4 : w3.cell? ⟨W.heap.size, 4, none⟩ = some (.int .i64 c.sl) := xc.cell 4
  have c5 : w3.cell? ⟨W.heap.size, 5, none⟩ = some (.int .i64 c.o) := xc.cell 5
  have c6 : w3.cell? ⟨W.heap.size, 6, none⟩ = some (.int .i64 c.ga) := xc.cell 6
  have c7 : w3.cell? ⟨W.heap.size, 7, none⟩ = some (.int .i64 c.la) := xc.cell 7
  have c8 : w3.cell? ⟨W.heap.size, 8, none⟩ = some (.int .i64 c.ea) := xc.cell 8
  have c9 : w3.cell? ⟨W.heap.size, 9, none⟩ = some (.bool c.di) := xc.cell 9
  have m0 : w3.cell? ⟨gm, 0, none⟩ = some (.string S) := xm.cell 0
  have m1 : w3.cell? ⟨gm, 1, none⟩ = some (.int .i64 D) := xm.cell 1
  have m2 : w3.cell? ⟨gm, 2, none⟩ = some (.slice Am n cm) := xm.cell 2
  go_wp2_with fail
  refine (HSZ.out w3 _ (HL.out _ HB3.out)).mono ?_
  rintro e w4 ⟨ns, rfl, hls, hb4⟩
  have HLS := Lib.hid hls
  have HB4 := Lib.hid (below_trans HB3.out hb4)
  have HB34 := Lib.hid hb4
  clear hb4 hls c0 c1 c2 c3 c4 c5 c6 c7 c8 c9 m0 m1 m2 xc xk xm
  obtain ⟨xc, xk, xm⟩ := HC.out w4 HB4.out
  have c0 : w4.cell? ⟨W.heap.size, 0, none⟩ = some (.int .i64 c.g) := xc.cell 0
  have c1 : w4.cell? ⟨W.heap.size, 1, none⟩ = some (.int .i64 c.so) := xc.cell 1
  have c2 : w4.cell? ⟨W.heap.size, 2, none⟩ = some (.int .i64 c.k) := xc.cell 2
  have c3 : w4.cell? ⟨W.heap.size, 3, none⟩ = some (.int .i64 c.sz) := xc.cell 3
  have c4 : w4.cell? ⟨W.heap.size, 4, none⟩ = some (.int .i64 c.sl) := xc.cell 4
  have c5 : w4.cell? ⟨W.heap.size, 5, none⟩ = some (.int .i64 c.o) := xc.cell 5
  have c6 : w4.cell? ⟨W.heap.size, 6, none⟩ = some (.int .i64 c.ga) := xc.cell 6
  have c7 : w4.cell? ⟨W.heap.size, 7, none⟩ = some (.int .i64 c.la) := xc.cell 7
  have c8 : w4.cell? ⟨W.heap.size, 8, none⟩ = some (.int .i64 c.ea) := xc.cell 8
  have c9 : w4.cell? ⟨W.heap.size, 9, none⟩ = some (.bool c.di) := xc.cell 9
  have k0 : w4.cell? ⟨W.heap.size + 1, 0, none⟩ = some (.string S) := xk.cell 0
  have k1 : w4.cell? ⟨W.heap.size + 1, 1, none⟩ = some (.int .i64 D) := xk.cell 1
  have k2 : w4.cell? ⟨W.heap.size + 1, 2, none⟩ = some (.slice Ak n ck) := xk.cell 2
  go_wp2_with fail
  refine (HRP.out w4 (HB1.out _ HB4.out)).mono ?_
  rintro e w5 ⟨Aw, nw, cw, rfl, hb5, ho5, hl5⟩
  have HB5 := Lib.hid (below_trans HB4.out hb5)
  have HB45 := Lib.hid hb5
  have HOW := Lib.hid ho5
  have HLW := Lib.hid hl5
  have hcw : nw ≤ cw ∧ cw ≤ maxLen := by obtain ⟨_, _, hv, h1, h2⟩ := ownsRow_shape ho5; cases hv; exact ⟨h1, h2⟩
  clear hb5 ho5 hl5 c0 c1 c2 c3 c4 c5 c6 c7 c8 c9 k0 k1 k2 xc xk xm
  obtain ⟨X, hX⟩ : ∃ X, (if z = 0 then KB else []) = X := ⟨_, rfl⟩
  have HX := Lib.hid hX
  rw [hX] at HOA HLA HOB HLB HLS HOW HLW
  have e1 : na = ns := HLA.out.symm.trans HLS.out
  subst e1
  have e2 : na = nb := HLA.out.symm.trans HLB.out
  subst e2
  have e3 : na = nw := HLA.out.symm.trans HLW.out
  subst e3
  clear hX HLS HLB HLW
  obtain ⟨hca1, hca2⟩ := hca
  obtain ⟨hcb1, hcb2⟩ := hcb
  obtain ⟨hcw1, hcw2⟩ := hcw
  unfold maxLen at hca2 hcb2 hcw2
  have HOA5 := Lib.hid (own_below HOA.out (below_trans HB23.out (below_trans HB34.out HB45.out)))
  have HOB5 := Lib.hid (own_below HOB.out (below_trans HB34.out HB45.out))
  have HBA : Hid (∀ w, Below w5.heap.size w5 w → Calls Try.prog 20 #[.slice Aa na ca, .slice Aw na cw] w fun e w' => e = .returned (.bool true) ∧ w = w') := Lib.hid fun w hb => by
    have h := kitBytes_any w Aa Aw na na ca cw X X ((Rd.of_owns HOA5.out).below hb) HLA.out ((Rd.of_owns HOW.out).below hb) HLA.out
    rwa [show (X == X) = true by simp] at h
  obtain ⟨xc, xk, xm⟩ := HC.out w5 HB5.out
  have k0 : w5.cell? ⟨W.heap.size + 1, 0, none⟩ = some (.string S) := xk.cell 0
  have k1 : w5.cell? ⟨W.heap.size + 1, 1, none⟩ = some (.int .i64 D) := xk.cell 1
  have k2 : w5.cell? ⟨W.heap.size + 1, 2, none⟩ = some (.slice Ak n ck) := xk.cell 2
  have m0 : w5.cell? ⟨gm, 0, none⟩ = some (.string S) := xm.cell 0
  have m1 : w5.cell? ⟨gm, 1, none⟩ = some (.int .i64 D) := xm.cell 1
  have m2 : w5.cell? ⟨gm, 2, none⟩ = some (.slice Am n cm) := xm.cell 2
  clear xc xk xm
  go_wp2_with (first
    | (go_at_call 14; (with_reducible refine (HNU.out _ _).mono ?_); rintro e w ⟨rfl, rfl⟩)
    | (go_at_call 20; (with_reducible refine (HBA.out _ (Below.refl _ _)).mono ?_); rintro e w ⟨rfl, rfl⟩)
    | (go_at_call 24; (with_reducible refine (HKP.out _ _ (HL.out _ HB5.out) (HB1.out _ HB5.out)).mono ?_); rintro e w6 ⟨rfl, hb6⟩; have HB56 := Lib.hid hb6; clear hb6)
    | fail)
  clear k0 k1 k2 m0 m1 m2
  have HB6 := Lib.hid (below_trans HB5.out HB56.out)
  have HOA6 := Lib.hid (own_below HOA5.out HB56.out)
  have HOB6 := Lib.hid (own_below HOB5.out HB56.out)
  have HOW6 := Lib.hid (own_below HOW.out HB56.out)
  have hna : na ≤ 4398046511104 := by
    have h1 := HLA.out
    rw [← HX.out] at h1
    by_cases hz : z = 0
    · rw [if_pos hz] at h1; have := HLEN.out hz; omega
    · rw [if_neg hz] at h1; simp at h1; omega
  refine (spoil_any w1.heap.size Aa na ca _ w6 HOA6.out HB6.out.size (by omega)).mono ?_
  rintro e w7 ⟨rfl, hg7⟩
  have HB7 : Hid (Below w1.heap.size w1 w7) := Lib.hid (HB6.out.grown hg7 HB6.out.size (fun r e => (own_lt HOA6.out e).1))
  have HOB7 : Hid (w7.ownsRow w2.heap.size 5 1 (.slice Ab na cb) na (bc X)) := Lib.hid (own_grown HOB6.out hg7 (own_apart HOA.out HOB6.out (Nat.le_refl _)))
  have HOW7 : Hid (w7.ownsRow w4.heap.size 5 1 (.slice Aw na cw) na (bc X)) := Lib.hid (own_grown HOW6.out hg7 (own_apart HOA.out HOW6.out (Nat.le_trans HB23.out.size HB34.out.size)))
  have HBW : Hid (∀ w, Below w7.heap.size w7 w → Calls Try.prog 20 #[.slice Ab na cb, .slice Aw na cw] w fun e w' => e = .returned (.bool true) ∧ w = w') := Lib.hid fun w hb => by
    have h := kitBytes_any w Ab Aw na na cb cw X X ((Rd.of_owns HOB7.out).below hb) HLA.out ((Rd.of_owns HOW7.out).below hb) HLA.out
    rwa [show (X == X) = true by simp] at h
  have hsz7 := Lib.hid hg7.size
  clear hg7
  obtain ⟨xc, xk, xm⟩ := HC.out w7 HB7.out
  have k0 : w7.cell? ⟨W.heap.size + 1, 0, none⟩ = some (.string S) := xk.cell 0
  have k1 : w7.cell? ⟨W.heap.size + 1, 1, none⟩ = some (.int .i64 D) := xk.cell 1
  have k2 : w7.cell? ⟨W.heap.size + 1, 2, none⟩ = some (.slice Ak n ck) := xk.cell 2
  have m0 : w7.cell? ⟨gm, 0, none⟩ = some (.string S) := xm.cell 0
  have m1 : w7.cell? ⟨gm, 1, none⟩ = some (.int .i64 D) := xm.cell 1
  have m2 : w7.cell? ⟨gm, 2, none⟩ = some (.slice Am n cm) := xm.cell 2
  clear xc xk xm
  have HKQ := Lib.hid (HKP.out _ _ (HL.out _ HB7.out) (HB1.out _ HB7.out))
  by_cases hz : z = 0
  · subst hz
    have hX : X = KB := by rw [← HX.out, if_pos rfl]
    subst hX
    have HRD2 := Lib.hid (HRD.out rfl)
    have HSK2 := Lib.hid (HSK.out rfl)
    simp only [HLA.out] at HRD2 HSK2
    clear HRD HSK HX HLEN HPUT HSZ HRP HBA
    go_wp2_with (first
      | (go_at_call 20; (with_reducible refine (HBW.out _ (Below.refl _ _)).mono ?_); rintro e w ⟨rfl, rfl⟩)
      | (go_at_call 24; (with_reducible refine HKQ.out.mono ?_); rintro e w8 ⟨rfl, hb8⟩; have HB78 := Lib.hid hb8; clear hb8)
      | fail)
    clear k0 k1 k2 m0 m1 m2
    have HB8 := Lib.hid (below_trans HB7.out HB78.out)
    have HB8D : Hid (Below w1.heap.size w1 w8.drew) := Lib.hid HB8.out.drew
    have HOB8 : Hid (∀ w, Below w8.heap.size w8 w → w.ownsRow w2.heap.size 5 1 (.slice Ab na cb) na (bc X)) := Lib.hid fun w hb => own_below (own_below HOB7.out HB78.out) hb
    have HOW8 : Hid (∀ w, Below w8.heap.size w8 w → w.ownsRow w4.heap.size 5 1 (.slice Aw na cw) na (bc X)) := Lib.hid fun w hb => own_below (own_below HOW7.out HB78.out) hb
    have HR38 : Hid (∀ w, Below w1.heap.size w1 w → Rd w (.slice A3 m3 cap3) m3 (bc more)) := Lib.hid fun w hb => HR3.out.below (HB1.out _ hb)
    have HCC : Hid (∀ w, Below w1.heap.size w1 w → w.cell? ⟨W.heap.size, 0, none⟩ = some (.int .i64 c.g) ∧ w.cell? ⟨W.heap.size, 1, none⟩ = some (.int .i64 c.so) ∧ w.cell? ⟨W.heap.size, 2, none⟩ = some (.int .i64 c.k) ∧ w.cell? ⟨W.heap.size, 3, none⟩ = some (.int .i64 c.sz) ∧ w.cell? ⟨W.heap.size, 4, none⟩ = some (.int .i64 c.sl) ∧ w.cell? ⟨W.heap.size, 5, none⟩ = some (.int .i64 c.o) ∧ w.cell? ⟨W.heap.size, 6, none⟩ = some (.int .i64 c.ga) ∧ w.cell? ⟨W.heap.size, 7, none⟩ = some (.int .i64 c.la) ∧ w.cell? ⟨W.heap.size, 8, none⟩ = some (.int .i64 c.ea) ∧ w.cell? ⟨W.heap.size, 9, none⟩ = some (.bool c.di)) := Lib.hid fun w hb => by
      obtain ⟨xc, -, -⟩ := HC.out w hb
      exact ⟨xc.cell 0, xc.cell 1, xc.cell 2, xc.cell 3, xc.cell 4, xc.cell 5, xc.cell 6, xc.cell 7, xc.cell 8, xc.cell 9⟩
    have HSZ8 : Hid (w2.heap.size ≤ w8.heap.size) := Lib.hid (Nat.le_trans (Nat.le_trans (Nat.le_trans (Nat.le_trans HB23.out.size HB34.out.size) HB45.out.size) HB56.out.size) (Nat.le_trans hsz7.out HB78.out.size))
    obtain ⟨i0, hi0, hz0, hz1, hz2⟩ := info_parts u8Info
    go_cut [16, 17, 18] (fun s16 s17 s18 wx => ∃ (gx : Nat) (Ax : Option Addr) (cx : Nat), s16 = .pointer (some ⟨gx, 0, none⟩) ∧ s17 = .int .i64 (na : Int) ∧ s18 = .int .i64 0 ∧ Bk wx gx 29 #[.string S, .int .i64 D, .slice Ax n cx] ∧ Rd wx (.slice Ax n cx) n (wcells k.ws) ∧ Below w1.heap.size w1 wx ∧ wx.ownsRow w4.heap.size 5 1 (.slice Aw na cw) na (bc X))
    case first =>
      go_region_held3 (fun w => w.cell? ⟨W.heap.size, 0, none⟩ = some (.int .i64 c.g) ∧ w.cell? ⟨W.heap.size, 1, none⟩ = some (.int .i64 c.so) ∧ w.cell? ⟨W.heap.size, 2, none⟩ = some (.int .i64 c.k) ∧ w.cell? ⟨W.heap.size, 3, none⟩ = some (.int .i64 c.sz) ∧ w.cell? ⟨W.heap.size, 4, none⟩ = some (.int .i64 c.sl) ∧ w.cell? ⟨W.heap.size, 5, none⟩ = some (.int .i64 c.o) ∧ w.cell? ⟨W.heap.size, 6, none⟩ = some (.int .i64 c.ga) ∧ w.cell? ⟨W.heap.size, 7, none⟩ = some (.int .i64 c.la) ∧ w.cell? ⟨W.heap.size, 8, none⟩ = some (.int .i64 c.ea) ∧ w.cell? ⟨W.heap.size, 9, none⟩ = some (.bool c.di))
        (first
          | exact HCC.out _ (below_trans HB8.out (below_drew w8))
          | exact HCC.out _ (below_trans HB8.out ((below_drew w8).alloc (by simp) (.cells #[.string ⟨#[]⟩, .int .i64 0, .slice none 0 0] 29)))
          | exact HCC.out _ HB9.out
          | exact HCC.out _ (HB9.out.alloc HB9.out.size _)
          | exact HCC.out _ HB10.out
          | exact HCC.out _ (HB10.out.alloc HB10.out.size _)
          | exact HCC.out _ HB11.out)
        ((first
        | (refine step_append_rd (by rfl) (.tmp 96) (.tmp 97) 25 (by rfl) w2.heap.size 5 i0 _ 1 1 Try.underlying25 hi0 hz0 hz1 hz2 rfl (by decide) _ na (bc X) (by rfl) (HOB8.out (w8.drew.alloc (.cells #[.string ⟨#[]⟩, .int .i64 0, .slice none 0 0] 29)) ((below_drew w8).alloc (by simp) (.cells #[.string ⟨#[]⟩, .int .i64 0, .slice none 0 0] 29))) A3 m3 cap3 (bc more) (by rfl) (by rw [bc_length, HM3.out, Nat.mul_one]) (HR38.out (w8.drew.alloc (.cells #[.string ⟨#[]⟩, .int .i64 0, .slice none 0 0] 29)) (below_trans HB8.out ((below_drew w8).alloc (by simp) (.cells #[.string ⟨#[]⟩, .int .i64 0, .slice none 0 0] 29)))) (bc_one _) (by simp only [maxLen]; omega) (by omega) (Nat.le_trans HSZ8.out ((below_drew w8).alloc (by simp) (.cells #[.string ⟨#[]⟩, .int .i64 0, .slice none 0 0] 29)).size) ?_; intro v9 w9 ho9 hg9
           have hg9' : Below w1.heap.size w1 w9 := (below_trans HB8.out ((below_drew w8).alloc (by simp) (.cells #[.string ⟨#[]⟩, .int .i64 0, .slice none 0 0] 29))).grown hg9.only (below_trans HB8.out ((below_drew w8).alloc (by simp) (.cells #[.string ⟨#[]⟩, .int .i64 0, .slice none 0 0] 29))).size (fun r e => Nat.le_trans HB2.out.size (own_lt (HOB8.out (w8.drew.alloc (.cells #[.string ⟨#[]⟩, .int .i64 0, .slice none 0 0] 29)) ((below_drew w8).alloc (by simp) (.cells #[.string ⟨#[]⟩, .int .i64 0, .slice none 0 0] 29))) e).1)
           have HB9 := Lib.hid hg9'
           have HOW9 : Hid (w9.ownsRow w4.heap.size 5 1 (.slice Aw na cw) na (bc X)) := Lib.hid (own_grown (HOW8.out (w8.drew.alloc (.cells #[.string ⟨#[]⟩, .int .i64 0, .slice none 0 0] 29)) ((below_drew w8).alloc (by simp) (.cells #[.string ⟨#[]⟩, .int .i64 0, .slice none 0 0] 29))) hg9.only (own_apart HOB.out (HOW8.out (w8.drew.alloc (.cells #[.string ⟨#[]⟩, .int .i64 0, .slice none 0 0] 29)) ((below_drew w8).alloc (by simp) (.cells #[.string ⟨#[]⟩, .int .i64 0, .slice none 0 0] 29))) HB34.out.size))
           have hz9 := (Bk.new' w8.drew 29 #[.string ⟨#[]⟩, .int .i64 0, .slice none 0 0] w8.heap.size rfl).grew hg9 (own_bk_ne (HOB8.out (w8.drew.alloc (.cells #[.string ⟨#[]⟩, .int .i64 0, .slice none 0 0] 29)) ((below_drew w8).alloc (by simp) (.cells #[.string ⟨#[]⟩, .int .i64 0, .slice none 0 0] 29))) (Bk.new' w8.drew _ _ w8.heap.size rfl) (by decide)); have HZ9 := Lib.hid hz9; clear hz9
           obtain ⟨A9, c9', rfl, -, -⟩ := ownsRow_shape ho9
           have HR9 : Hid (Rd w9 (.slice A9 (na + m3) c9') (na + m3) (bc (X ++ more))) := Lib.hid (by rw [bc_append]; exact Rd.of_owns ho9)
           clear ho9 hg9 hg9')
        | (refine step_append_rd (by rfl) (.tmp 96) (.tmp 97) 25 (by rfl) w2.heap.size 5 i0 _ 1 1 Try.underlying25 hi0 hz0 hz1 hz2 rfl (by decide) _ na (bc X) (by rfl) (HOB8.out w8.drew (below_drew w8)) A3 m3 cap3 (bc more) (by rfl) (by rw [bc_length, HM3.out, Nat.mul_one]) (HR38.out w8.drew (below_trans HB8.out (below_drew w8))) (bc_one _) (by simp only [maxLen]; omega) (by omega) (Nat.le_trans HSZ8.out (below_drew w8).size) ?_; intro v9 w9 ho9 hg9
           have hg9' : Below w1.heap.size w1 w9 := (below_trans HB8.out (below_drew w8)).grown hg9.only (below_trans HB8.out (below_drew w8)).size (fun r e => Nat.le_trans HB2.out.size (own_lt (HOB8.out w8.drew (below_drew w8)) e).1)
           have HB9 := Lib.hid hg9'
           have HOW9 : Hid (w9.ownsRow w4.heap.size 5 1 (.slice Aw na cw) na (bc X)) := Lib.hid (own_grown (HOW8.out w8.drew (below_drew w8)) hg9.only (own_apart HOB.out (HOW8.out w8.drew (below_drew w8)) HB34.out.size))
           have HZ9 : Hid True := Lib.hid trivial
           obtain ⟨A9, c9', rfl, -, -⟩ := ownsRow_shape ho9
           have HR9 : Hid (Rd w9 (.slice A9 (na + m3) c9') (na + m3) (bc (X ++ more))) := Lib.hid (by rw [bc_append]; exact Rd.of_owns ho9)
           clear ho9 hg9 hg9')
        | (go_at_call 10; (with_reducible refine (HRD2.out _ _ _ w9 (HR9.out.below (Below.refl _ w9)) (by rw [List.length_append, HLA.out, HM3.out]) (by omega)).mono ?_); rintro e w10 ⟨hb10, Ax, cx, rfl, hrx⟩
           have HB10 := Lib.hid (below_trans HB9.out (below_trans (Below.refl _ w9) hb10))
           have HOW10 := Lib.hid (own_below HOW9.out (below_trans (Below.refl _ w9) hb10))
           have HRX := Lib.hid hrx
           have hz10 := HZ9.out.below hb10; have f0 := hz10.frozen 0; have f1 := hz10.frozen 1; have f2 := hz10.frozen 2; have q0 := hz10.cell 0; have q1 := hz10.cell 1; have q2 := hz10.cell 2; have hge : w1.heap.size ≤ w8.heap.size := HB8.out.size; have HB11 : Hid (Below w1.heap.size w1 (((w10.setCell ⟨w8.heap.size, 0, none⟩ (.string S)).setCell ⟨w8.heap.size, 1, none⟩ (.int .i64 D)).setCell ⟨w8.heap.size, 2, none⟩ (.slice Ax n cx))) := Lib.hid (((HB10.out.setCell (p := ⟨w8.heap.size, 0, none⟩) hge _).setCell (p := ⟨w8.heap.size, 1, none⟩) hge _).setCell (p := ⟨w8.heap.size, 2, none⟩) hge _); have HFIN : Hid (_ ∧ _ ∧ _ ∧ _) := Lib.hid ⟨((hz10.set 0 (.string S)).set 1 (.int .i64 D)).set 2 (.slice Ax n cx), Rd.of_owns (own_set (own_set (own_set hrx hz10 (by decide) 0 (.string S)) (hz10.set 0 _) (by decide) 1 (.int .i64 D)) ((hz10.set 0 _).set 1 _) (by decide) 2 (.slice Ax n cx)), HB11.out, own_set (own_set (own_set HOW10.out hz10 (by decide) 0 (.string S)) (hz10.set 0 _) (by decide) 1 (.int .i64 D)) ((hz10.set 0 _).set 1 _) (by decide) 2 (.slice Ax n cx)⟩; clear hge; clear hz10
           clear hb10 hrx)
        | (go_at_call 10; (with_reducible refine (HRD2.out _ _ _ w9 (HR9.out.below (Below.refl _ w9)) (by rw [List.length_append, HLA.out, HM3.out]) (by omega)).mono ?_); rintro e w10 ⟨hb10, Ax, cx, rfl, hrx⟩
           have HB10 := Lib.hid (below_trans HB9.out (below_trans (Below.refl _ w9) hb10))
           have HOW10 := Lib.hid (own_below HOW9.out (below_trans (Below.refl _ w9) hb10))
           have HRX := Lib.hid hrx
           have HFIN : Hid (_ ∧ _ ∧ _ ∧ _) := Lib.hid ⟨Bk.new w10 29 #[.string S, .int .i64 D, .slice Ax n cx], (Rd.of_owns hrx).below (below_alloc w10 (.cells #[.string S, .int .i64 D, .slice Ax n cx] 29)), HB10.out.alloc HB10.out.size (.cells #[.string S, .int .i64 D, .slice Ax n cx] 29), HOW10.out.alloc (.cells #[.string S, .int .i64 D, .slice Ax n cx] 29)⟩
           clear hb10 hrx)
        | (go_at_call 10; (with_reducible refine (HRD2.out _ _ _ (w9.alloc (.cells #[.string ⟨#[]⟩, .int .i64 0, .slice none 0 0] 29)) (HR9.out.below (below_alloc w9 (.cells #[.string ⟨#[]⟩, .int .i64 0, .slice none 0 0] 29))) (by rw [List.length_append, HLA.out, HM3.out]) (by omega)).mono ?_); rintro e w10 ⟨hb10, Ax, cx, rfl, hrx⟩
           have HB10 := Lib.hid (below_trans HB9.out (below_trans (below_alloc w9 (.cells #[.string ⟨#[]⟩, .int .i64 0, .slice none 0 0] 29)) hb10))
           have HOW10 := Lib.hid (own_below HOW9.out (below_trans (below_alloc w9 (.cells #[.string ⟨#[]⟩, .int .i64 0, .slice none 0 0] 29)) hb10))
           have HRX := Lib.hid hrx
           have hz10 := (Bk.new w9 29 #[.string ⟨#[]⟩, .int .i64 0, .slice none 0 0]).below hb10; have f0 := hz10.frozen 0; have f1 := hz10.frozen 1; have f2 := hz10.frozen 2; have q0 := hz10.cell 0; have q1 := hz10.cell 1; have q2 := hz10.cell 2; have hge : w1.heap.size ≤ w9.heap.size := HB9.out.size; have HB11 : Hid (Below w1.heap.size w1 (((w10.setCell ⟨w9.heap.size, 0, none⟩ (.string S)).setCell ⟨w9.heap.size, 1, none⟩ (.int .i64 D)).setCell ⟨w9.heap.size, 2, none⟩ (.slice Ax n cx))) := Lib.hid (((HB10.out.setCell (p := ⟨w9.heap.size, 0, none⟩) hge _).setCell (p := ⟨w9.heap.size, 1, none⟩) hge _).setCell (p := ⟨w9.heap.size, 2, none⟩) hge _); have HFIN : Hid (_ ∧ _ ∧ _ ∧ _) := Lib.hid ⟨((hz10.set 0 (.string S)).set 1 (.int .i64 D)).set 2 (.slice Ax n cx), Rd.of_owns (own_set (own_set (own_set hrx hz10 (by decide) 0 (.string S)) (hz10.set 0 _) (by decide) 1 (.int .i64 D)) ((hz10.set 0 _).set 1 _) (by decide) 2 (.slice Ax n cx)), HB11.out, own_set (own_set (own_set HOW10.out hz10 (by decide) 0 (.string S)) (hz10.set 0 _) (by decide) 1 (.int .i64 D)) ((hz10.set 0 _).set 1 _) (by decide) 2 (.slice Ax n cx)⟩; clear hge; clear hz10
           clear hb10 hrx)
))
      all_goals go_wp2
      all_goals go_meet
      all_goals exact ⟨_, _, _, rfl, rfl, rfl, HFIN.out⟩
    case rest =>
      obtain ⟨gx, Ax, cx, rfl, rfl, rfl, hxb, hxr, hb, how⟩ := hcut
      have HXB := Lib.hid hxb
      have HXR := Lib.hid hxr
      have HBC := Lib.hid hb
      have HOWC := Lib.hid how
      clear hxb hxr hb how
      have HDN : Hid (∀ w w' : World, Below wc.heap.size wc w → w.grownBy w' none → Below wc.heap.size wc w') := Lib.hid fun w w' hb hg => hb.grown hg hb.size (fun r e => by cases e)
      have hwcW : W.heap.size + 1 < wc.heap.size := (HC.out _ HBC.out).2.1.lt
      have HKEY : Hid (∀ w, Below wc.heap.size wc w → Calls Try.prog 15 #[.agg #[.string S, .int .i64 D, .slice Ax n cx], .agg #[.string S, .int .i64 D, .slice Ak n ck]] w fun e w' => e = .returned (.bool true) ∧ Below w.heap.size w w') := Lib.hid fun w hb => HKY.out _ _ (HRR.out _ _ _ (HXR.out.below hb)) (HB1.out _ (below_trans HBC.out hb))
      have hss : (S.toList == S.toList) = true := by simp
      go_wp2_with (first
        | (at_builtin; refine wpList_append_rd _ rfl (.const (.slice none 0 0)) (.tmp 104) 25 rfl wc.heap.size 5 i0 _ 1 1 Try.underlying25 hi0 hz0 hz1 hz2 rfl (by decide) (.slice none 0 0) 0 [] rfl (World.ownsRow_nil _ _ _ _) Aw na cw (bc X) rfl (by rw [bc_length, HLA.out, Nat.mul_one]) (Rd.of_owns HOWC.out) (bc_one _) (by simp only [maxLen]; omega) (by omega) (Nat.le_refl _) ?_; intro v13 w13 ho13 hg13 hat13; simp only [Nat.zero_add, List.nil_append] at ho13; have HB13 := Lib.hid (HDN.out wc w13 (Below.refl _ _) hg13); have HO13 := Lib.hid ho13; clear ho13 hg13 hat13)
        | (at_builtin; refine wpList_append_rd _ rfl (.tmp 105) (.tmp 106) 25 rfl wc.heap.size 5 i0 _ 1 1 Try.underlying25 hi0 hz0 hz1 hz2 rfl (by decide) v13 na (bc X) rfl HO13.out A3 m3 cap3 (bc more) rfl (by rw [bc_length, HM3.out, Nat.mul_one]) (HR38.out _ (below_trans HBC.out HB13.out)) (bc_one _) (by simp only [maxLen]; omega) (by omega) HB13.out.size ?_; intro v14 w14 ho14 hg14 hat14; have HB14 := Lib.hid (HB13.out.grown hg14 HB13.out.size (fun r e => (own_lt HO13.out e).1)); obtain ⟨A14, c14, rfl, -, -⟩ := ownsRow_shape ho14; have HR14 : Hid (Rd w14 (.slice A14 (na + m3) c14) (na + m3) (bc (X ++ more))) := Lib.hid (by rw [bc_append]; exact Rd.of_owns ho14); clear ho14 hg14 hat14)
        | (go_at_call 11; (with_reducible refine (HSK2.out _ _ _ _ HR14.out (by rw [List.length_append, HLA.out, HM3.out]) (by omega)).mono ?_); rintro e w15 ⟨rfl, hb15⟩; have HB15 := Lib.hid (below_trans HB14.out hb15); have hkk := (HC.out _ (below_trans HBC.out HB15.out)).2.1; have k0 : w15.cell? ⟨W.heap.size + 1, 0, none⟩ = some (.string S) := hkk.cell 0; have k1 : w15.cell? ⟨W.heap.size + 1, 1, none⟩ = some (.int .i64 D) := hkk.cell 1; have k2 : w15.cell? ⟨W.heap.size + 1, 2, none⟩ = some (.slice Ak n ck) := hkk.cell 2; have hxx := HXB.out.below HB15.out; have x0 : w15.cell? ⟨gx, 0, none⟩ = some (.string S) := hxx.cell 0; have x1 : w15.cell? ⟨gx, 1, none⟩ = some (.int .i64 D) := hxx.cell 1; have x2 : w15.cell? ⟨gx, 2, none⟩ = some (.slice Ax n cx) := hxx.cell 2; clear hb15 hkk hxx)
        | (go_at_call 14; (with_reducible refine (HNU.out _ _).mono ?_); rintro e w ⟨rfl, rfl⟩)
        | (go_at_call 15; (with_reducible refine (HKEY.out _ HB15.out).mono ?_); rintro e w16 ⟨rfl, hb16⟩; have HB16 := Lib.hid (below_trans HB15.out hb16); have y0 : w16.cell? ⟨W.heap.size + 1, 0, none⟩ = some (.string S) := (HC.out _ (below_trans HBC.out HB16.out)).2.1.cell 0; clear hb16)
        | (go_at_call 18; (with_reducible refine (HKN.out _).mono ?_); rintro e w17 ⟨rfl, hb17⟩; have HB17 := Lib.hid hb17; clear hb17))
      go_ret
      exact ⟨rfl, HB1.out _ (below_trans HBC.out (below_trans HB16.out HB17.out))⟩
  · have hnz : (z != 0) = true := by simpa using hz
    clear HRD HSK HX HLEN HPUT HSZ HRP HBA hz
    go_wp2_with (first
      | (go_at_call 20; (with_reducible refine (HBW.out _ (Below.refl _ _)).mono ?_); rintro e w ⟨rfl, rfl⟩)
      | (go_at_call 24; (with_reducible refine HKQ.out.mono ?_); rintro e w8 ⟨rfl, hb8⟩; have HB78 := Lib.hid hb8; clear hb8)
      | (go_at_call 18; (with_reducible refine (HKN.out _).mono ?_); rintro e w9 ⟨rfl, hb9⟩; have HB89 := Lib.hid hb9; clear hb9))
    go_ret
    exact ⟨rfl, HB1.out _ (below_trans HB7.out (below_trans HB78.out HB89.out))⟩
end Go.Proofs.Ytaechgnjdjijkaa
