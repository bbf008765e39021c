/- ClockPlays, walked: New answers a clock, Of answers a clock. -/
import Derived.Test.YtdndljbagjfkkaaTr
namespace Go.Proofs.Ytdndljbagjfkkaa
open Go.RowKit Go.Lib
set_option maxRecDepth 100000 in
set_option maxHeartbeats 4000000 in
theorem clockPlays_11 (S : Nat) (A : Option Addr) (n cap : Nat) (L : List Int) (Ab : Option Addr) (m cap2 : Nat) (sp : List Sp) (w : World)
    (hr : Rd w (.slice A n cap) n (ic L)) (hL : L.length = n) (hs : Rd w (.slice Ab m cap2) m (spc sp)) (hm : sp.length = m) (hnm : ∀ s ∈ sp, s.name.size ≤ maxLen) (hn : n ≤ 17592186044410) (hmm : m ≤ 2199023255540) (hS0 : 0 < S) (hS : S ≤ 64) (hok : okL L) :
    Calls Try.prog 5 #[.int .i64 (S : Int), .slice A n cap, .slice Ab m cap2] w fun e w' => e = .returned (.bool true) ∧ Below w.heap.size w w' := by
  have HLE := Lib.hid (LendInts_any A n cap L w hr hL hn)
  have HRM : Hid (∀ W, Below w.heap.size w W → Rd W (.slice A n cap) n (ic L)) := fun W hW => hr.below hW
  have HRS : Hid (∀ W, Below w.heap.size w W → Rd W (.slice Ab m cap2) m (spc sp)) := fun W hW => hs.below hW
  have HL := Lib.hid hL
  have HM := Lib.hid hm
  have HNM := Lib.hid hnm
  have HOK := Lib.hid hok
  have HN := Lib.hid (fun W => New_ok S W hS0 hS)
  have HRN := Lib.hid (fun W => rNew_ok S W hS0 hS)
  have HOF := Lib.hid (fun (W : World) (g c : Nat) (hR : Rd W (.slice (some ⟨g, 0, none⟩) n c) n (ic L)) => Of_ok (some ⟨g, 0, none⟩) n c L W hR HL.out HOK.out)
  have HRO := Lib.hid (fun (W : World) (hR : Rd W (.slice A n cap) n (ic L)) => rOf_ok A n cap L W hR HL.out HOK.out)
  have HAT : Hid (allT (List.replicate S (-4611686018427387904)) = true) := (okL_rep S hS0 hS).2.2
  clear hr hL hs hm hnm hok hS hS0
  go_enter Try.func5, Try.ntmps5
  go_wp2_with (first
    | (go_at_call 24; (with_reducible refine HLE.out.mono ?_); rintro e w1 ⟨g, c, rfl, hln, hb⟩
       have HLN1 := Lib.hid hln
       have HB1 := Lib.hid hb
       clear hln hb)
    | (go_at_call 8; (with_reducible refine (HN.out w1).mono ?_); rintro e w2 ⟨x1, rfl, hk, hb⟩
       have HC1 := Lib.hid hk
       have HB2 := Lib.hid hb
       clear hk hb)
    | (go_at_call 25; (with_reducible refine (HOF.out w2 g c (HLN1.out.rd.below HB2.out)).mono ?_); rintro e w3 ⟨x2, rfl, hk, hb⟩
       have HC2 := Lib.hid hk
       have HB3 : Hid (Below w2.heap.size w2 w3) := hb
       clear hk hb)
    | (go_at_call 17; (with_reducible refine (HRN.out w3).mono ?_); rintro e w4 ⟨y1, rfl, hk, hb⟩
       have HR1 := Lib.hid hk
       have HB4 := Lib.hid hb
       clear hk hb)
    | (go_at_call 26; (with_reducible refine (HRO.out w4 (HRM.out _ (HB1.out.trans ((HB2.out.trans ((HB3.out.trans (HB4.out.mono HB3.out.size)).mono HB2.out.size)).mono HB1.out.size)))).mono ?_); rintro e w5 ⟨y2, rfl, hk, hb⟩
       have HR2 := Lib.hid hk
       have HB5 : Hid (Below w4.heap.size w4 w5) := hb
       have H25 := Lib.hid (HB3.out.trans ((HB4.out.trans (HB5.out.mono HB4.out.size)).mono HB3.out.size))
       have H15 := Lib.hid (HB2.out.trans (H25.out.mono HB2.out.size))
       have H05 := Lib.hid (HB1.out.trans (H15.out.mono HB1.out.size))
       clear hk hb)
    | (go_at_call 9; (with_reducible refine (num_any _ _).mono ?_); rintro e wn ⟨rfl, rfl⟩)
    | (go_at_call 27; (with_reducible refine (KeptInts_any w.heap.size g n c A cap L w5 ⟨own_below HLN1.out.row H15.out, HL.out⟩ (HRM.out _ H05.out) hn).mono ?_); rintro e w6 ⟨rfl, hb⟩
       have HB6 := Lib.hid hb
       clear hb))
  have H16 := Lib.hid (H15.out.trans (HB6.out.mono H15.out.size))
  have H06 := Lib.hid (HB1.out.trans (H16.out.mono HB1.out.size))
  have HROW6 := Lib.hid (own_mono (own_below HLN1.out.row H16.out) (Nat.zero_le _))
  have hgl := HLN1.out.row.lt g rfl
  have hg1 : w.heap.size ≤ g := hgl.1
  have hg2 : g < w1.heap.size := hgl.2
  have h16s := H16.out.size
  clear hgl
  obtain ⟨nb1, hp1⟩ := PrS.made HC1.out HR1.out HT.nil (fun x hx => by simp at hx) HB3.out.size (H25.out.trans (HB6.out.mono H25.out.size)) (HB5.out.trans (HB6.out.mono HB5.out.size)) (Nat.le_refl 0) (Nat.le_refl 0)
  have HP1 : Hid (PO w6 (fun k => Nw w1 w2 k ∨ Nw w3 w4 k) (some ⟨x1, 0, none⟩) (some ⟨y1, 0, none⟩) 0) := .inr ⟨_, _, _, _, _, rfl, rfl, hp1, HAT.out⟩
  clear hp1
  obtain ⟨nb2, hp2⟩ := PrS.made HC2.out HR2.out HT.nil (fun x hx => by simp at hx) HB4.out.size ((HB4.out.trans (HB5.out.mono HB4.out.size)).trans (HB6.out.mono (HB4.out.trans (HB5.out.mono HB4.out.size)).size)) HB6.out (Nat.le_refl 0) (Nat.le_refl 0)
  have HP2 : Hid (PO w6 (fun k => Nw w2 w3 k ∨ Nw w4 w5 k) (some ⟨x2, 0, none⟩) (some ⟨y2, 0, none⟩) 0) := .inr ⟨_, _, _, _, _, rfl, rfl, hp2, HOK.out.2.2⟩
  clear hp2
  have HSZ : Hid (w1.heap.size ≤ w2.heap.size ∧ w2.heap.size ≤ w3.heap.size ∧ w3.heap.size ≤ w4.heap.size ∧ w4.heap.size ≤ w5.heap.size ∧ w5.heap.size ≤ w6.heap.size) := ⟨HB2.out.size, HB3.out.size, HB4.out.size, HB5.out.size, HB6.out.size⟩
  go_loopw [16] (fun iv wr => ∃ k : Nat, iv = .int .i64 (k : Int) ∧ k ≤ n ∧ Only (fun b => b = g) w6 wr ∧ ∃ xs, wr.ownsRow 0 2 1 (.slice (some ⟨g, 0, none⟩) (n + 3) c) (n + 3) xs) (fun iv _ => n - (intOf iv).toNat)
  case atStart => exact ⟨0, rfl, Nat.zero_le _, Only.refl _ _, _, HROW6.out⟩
  case round =>
    obtain ⟨k, rfl, hk, hon, xs, hxs⟩ := hrel
    have HN6 := Lib.hid hon
    have HX := Lib.hid hxs
    clear hon hxs
    by_cases hkm : k < n
    · obtain ⟨_, eg, -, hgl, -, -, hcell, hfz⟩ := ownsRow_at HX.out (by omega)
      cases eg
      obtain ⟨u0, hu0⟩ := ownsRow_cell HX.out (j := k) (by omega)
      have d0 := hcell _ _ hu0
      have f0 := hfz k
      have hki : (k : Int) < (n : Int) := by omega
      clear hcell hfz hu0
      go_wp2
      go_roundw
      case rel => exact ⟨k + 1, by go_num, by omega, HN6.out.then (Only.set (X := fun b => b = g) ⟨g, k, none⟩ _ rfl wr), _, ownsRow_set HX.out _⟩
      case measure => simp [intOf]; omega
    · obtain rfl : k = n := by omega
      obtain ⟨w7, rfl⟩ : ∃ w7 : World, w7 = wr := ⟨_, rfl⟩
      have HB7 : Hid (Below w.heap.size w w7) := H06.out.trans (only_one HN6.out hg1 H06.out.size)
      obtain ⟨hz12, hz23, hz34, hz45, hz56⟩ := HSZ.out
      have hz67 := HN6.out.size
      have hz01 := HB1.out.size
      have HQ1 := Lib.hid (HP1.out.keep HN6.out (fun b hb e => by subst e; (rcases hb with hb | hb <;> (have h1 := hb.1; have h2 := hb.2; omega))))
      have HQ2 := Lib.hid (HP2.out.keep HN6.out (fun b hb e => by subst e; (rcases hb with hb | hb <;> (have h1 := hb.1; have h2 := hb.2; omega))))
      have ba := below_alloc w7 (.cells #[.pointer (some ⟨x1, 0, none⟩), .pointer (some ⟨x2, 0, none⟩), .pointer none] 60)
      have bb := below_alloc (w7.alloc (.cells #[.pointer (some ⟨x1, 0, none⟩), .pointer (some ⟨x2, 0, none⟩), .pointer none] 60)) (.cells #[.pointer (some ⟨y1, 0, none⟩), .pointer (some ⟨y2, 0, none⟩), .pointer none] 61)
      have bab : Below w7.heap.size w7 ((w7.alloc (.cells #[.pointer (some ⟨x1, 0, none⟩), .pointer (some ⟨x2, 0, none⟩), .pointer none] 60)).alloc (.cells #[.pointer (some ⟨y1, 0, none⟩), .pointer (some ⟨y2, 0, none⟩), .pointer none] 61)) := ba.trans (bb.mono (by simp))
      have H0 : Hid (∃ p r X, Tr w.heap.size w ((w7.alloc (.cells #[.pointer (some ⟨x1, 0, none⟩), .pointer (some ⟨x2, 0, none⟩), .pointer none] 60)).alloc (.cells #[.pointer (some ⟨y1, 0, none⟩), .pointer (some ⟨y2, 0, none⟩), .pointer none] 61)) w7.heap.size (w7.heap.size + 1) p r X 0) := by
        have hx1 : ∀ b : Nat, (fun k => Nw w1 w2 k ∨ Nw w3 w4 k) b → w.heap.size ≤ b ∧ b < w7.heap.size := fun b hb => by rcases hb with hb | hb <;> (have h1 := hb.1; have h2 := hb.2; exact ⟨by omega, by omega⟩)
        have hx2 : ∀ b : Nat, (fun k => Nw w2 w3 k ∨ Nw w4 w5 k) b → w.heap.size ≤ b ∧ b < w7.heap.size := fun b hb => by rcases hb with hb | hb <;> (have h1 := hb.1; have h2 := hb.2; exact ⟨by omega, by omega⟩)
        have hxx : ∀ b : Nat, (fun k => Nw w1 w2 k ∨ Nw w3 w4 k) b → ¬ (fun k => Nw w2 w3 k ∨ Nw w4 w5 k) b := fun b hb hb2 => by rcases hb with hb | hb <;> rcases hb2 with hb2 | hb2 <;> (have h1 := hb.1; have h2 := hb.2; have h3 := hb2.1; have h4 := hb2.2; omega)
        refine ⟨fun k => if k = 0 then (some ⟨x1, 0, none⟩) else if k = 1 then (some ⟨x2, 0, none⟩) else none, fun k => if k = 0 then (some ⟨y1, 0, none⟩) else if k = 1 then (some ⟨y2, 0, none⟩) else none, fun k => if k = 0 then (fun k => Nw w1 w2 k ∨ Nw w3 w4 k) else if k = 1 then (fun k => Nw w2 w3 k ∨ Nw w4 w5 k) else fun _ => False,
          HB7.out.trans (bab.mono HB7.out.size), ⟨_, (Bk.new w7 _ _).alloc _, rfl, fun k hk => ?_⟩, ⟨_, by have := Bk.new (w7.alloc (.cells #[.pointer (some ⟨x1, 0, none⟩), .pointer (some ⟨x2, 0, none⟩), .pointer none] 60)) 61 #[.pointer (some ⟨y1, 0, none⟩), .pointer (some ⟨y2, 0, none⟩), .pointer none]; rw [World.size_alloc] at this; exact this, rfl, fun k hk => ?_⟩, fun k hk => ?_, fun j k hj hk hne b hb hb2 => ?_, fun k hk b hb => ?_, fun k hk b hb => ?_, fun k hk => ?_, by have := HB7.out.size; omega, by have := HB7.out.size; omega, by omega, by have := HB7.out.size; simp; omega⟩
        · match k with
          | 0 => rfl
          | 1 => rfl
          | 2 => rfl
        · match k with
          | 0 => rfl
          | 1 => rfl
          | 2 => rfl
        · match k with
          | 0 => exact HQ1.out.below bab
          | 1 => exact HQ2.out.below bab
          | 2 => exact .inl ⟨rfl, rfl⟩
        · match j, k with
          | 0, 0 => exact hne rfl
          | 0, 1 => exact hxx b hb hb2
          | 0, 2 => exact hb2
          | 1, 0 => exact hxx b hb2 hb
          | 1, 1 => exact hne rfl
          | 1, 2 => exact hb2
          | 2, _ => exact hb
        · match k with
          | 0 => exact (hx1 b hb).1
          | 1 => exact (hx2 b hb).1
          | 2 => exact hb.elim
        · have : ((w7.alloc (.cells #[.pointer (some ⟨x1, 0, none⟩), .pointer (some ⟨x2, 0, none⟩), .pointer none] 60)).alloc (.cells #[.pointer (some ⟨y1, 0, none⟩), .pointer (some ⟨y2, 0, none⟩), .pointer none] 61)).heap.size = w7.heap.size + 2 := by simp
          rw [this]
          match k with
          | 0 => have := (hx1 b hb).2; omega
          | 1 => have := (hx2 b hb).2; omega
          | 2 => exact hb.elim
        · match k with
          | 0 => exact ⟨fun h => by have := (hx1 w7.heap.size h).2; omega, fun h => by have := (hx1 (w7.heap.size + 1) h).2; omega⟩
          | 1 => exact ⟨fun h => by have := (hx2 w7.heap.size h).2; omega, fun h => by have := (hx2 (w7.heap.size + 1) h).2; omega⟩
          | 2 => exact ⟨fun h => h, fun h => h⟩
      clear ba bb bab hz12 hz23 hz34 hz45 hz56 hz67 hz01
      go_wp2
      obtain ⟨p0, r0, X0, hT0⟩ := H0.out
      have HT0 := Lib.hid hT0
      obtain ⟨bt, hbt⟩ : ∃ bt, w7.heap.size = bt := ⟨_, rfl⟩
      obtain ⟨br, hbr⟩ : ∃ br, bt + 1 = br := ⟨_, rfl⟩
      rw [hbt, hbr] at HT0 ⊢
      clear hT0 hbt hbr H0
      go_loopw [19] (fun iv wr => ∃ (i : Nat) (p r : Nat → Option Addr) (X : Nat → Nat → Prop), iv = .int .i64 (i : Int) ∧ i ≤ m ∧ Tr w.heap.size w wr bt br p r X (2 * i)) (fun iv _ => m - (intOf iv).toNat)
      case atStart => exact ⟨0, p0, r0, X0, rfl, Nat.zero_le _, HT0.out⟩
      case round =>
        obtain ⟨i, p, r, X, rfl, hi, hT⟩ := hrel
        have HT := Lib.hid hT
        have HBL := Lib.hid hT.bl
        clear hT
        by_cases him : i < m
        · obtain ⟨s, hsi⟩ : ∃ s, sp[i]? = some s := ⟨_, List.getElem?_eq_getElem (by have := HM.out; omega)⟩
          obtain ⟨_, _, hv, _, _, hx⟩ := HRS.out wr HBL.out
          cases hv
          obtain ⟨g2, off, rfl, hg2', hc⟩ := hx (by omega)
          have hcc := fun j v hj => hc (i * 7 + j) v (spc_at hsi j v hj)
          have z0 := hcc 0 _ rfl
          have z1 := hcc 1 _ rfl
          have z2 := hcc 2 _ rfl
          have z3 := hcc 3 _ rfl
          have z4 := hcc 4 _ rfl
          have z5 := hcc 5 _ rfl
          have z6 := hcc 6 _ rfl
          simp only [← Nat.add_assoc, Nat.add_zero] at z0 z1 z2 z3 z4 z5 z6
          have hsn : s.name.size ≤ maxLen := HNM.out s (List.mem_of_getElem? hsi)
          have HSN := Lib.hid hsn
          have himi : (i : Int) < (m : Int) := by omega
          have hB2 : 2 * i ≤ 4398046511102 := by omega
          obtain ⟨u, hu3⟩ : ∃ u : Nat, s.who % 3 = (u : Int) := ⟨(s.who % 3).toNat, by omega⟩
          obtain ⟨t, ht3⟩ : ∃ t : Nat, s.to_ % 3 = (t : Int) := ⟨(s.to_ % 3).toNat, by omega⟩
          have hu : u < 3 := by omega
          have ht : t < 3 := by omega
          have hui : (u : Int) < 3 := by omega
          have hti : (t : Int) < 3 := by omega
          have HPU : Hid (∀ W, Calls Try.prog 28 #[.int .i64 s.who] W fun e w' => e = .returned (.int .i64 (u : Int)) ∧ w' = W) := fun W => by rw [← hu3]; exact placeN_any _ W
          have HPT : Hid (∀ W, Calls Try.prog 28 #[.int .i64 s.to_] W fun e w' => e = .returned (.int .i64 (t : Int)) ∧ w' = W) := fun W => by rw [← ht3]; exact placeN_any _ W
          have HPL : Hid (∀ (W : World) (X : Nat → Prop) (p r : Option Addr) (B : Nat), PO W X p r B → B ≤ 4398046511102 → Calls Try.prog 21 #[.pointer p, .pointer r, .agg #[.int .i64 s.kind, .int .i64 s.who, .int .i64 s.to_, .int .i64 s.src, .int .i64 s.leave, .string s.name, .int .i64 s.tm]] W fun e w' => e = .returned (.bool true) ∧ PO w' (Xt X W w') p r (B + 2) ∧ Only X W w') := fun W X p r B h hb => h.plays s hsn hb
          have HBS := Lib.hid (Bk.new wr 30 #[.int .i64 s.kind, .int .i64 s.who, .int .i64 s.to_, .int .i64 s.src, .int .i64 s.leave, .string s.name, .int .i64 s.tm])
          have HTA := Lib.hid (HT.out.below (below_alloc wr (.cells #[.int .i64 s.kind, .int .i64 s.who, .int .i64 s.to_, .int .i64 s.src, .int .i64 s.leave, .string s.name, .int .i64 s.tm] 30)))
          obtain ⟨bs, hbs⟩ : ∃ bs, wr.heap.size = bs := ⟨_, rfl⟩
          have hne1 : bs ≠ bt := by have := HT.out.at_.lt; omega
          have hne2 : bs ≠ br := by have := HT.out.ar.lt; omega
          have q1 : (wr.alloc (.cells #[.int .i64 s.kind, .int .i64 s.who, .int .i64 s.to_, .int .i64 s.src, .int .i64 s.leave, .string s.name, .int .i64 s.tm] 30)).cell? ⟨wr.heap.size, 1, none⟩ = some (.int .i64 s.who) := HBS.out.cell 1
          have q2 : (wr.alloc (.cells #[.int .i64 s.kind, .int .i64 s.who, .int .i64 s.to_, .int .i64 s.src, .int .i64 s.leave, .string s.name, .int .i64 s.tm] 30)).cell? ⟨wr.heap.size, 2, none⟩ = some (.int .i64 s.to_) := HBS.out.cell 2
          rw [hbs] at HBS q1 q2
          have HSZ' := Lib.hid hbs
          have HNO : Hid (∀ W, NoC W none) := fun W => .inl rfl
          clear hc hcc hx hsi hsn hu3 ht3 hbs
          go_wp2
          rw [HSZ'.out]
          go_quiet ((first
            | (go_at_call 28; exact Calls.quiet_of_same (HPU.out _))
            | (go_at_call 28; exact Calls.quiet_of_same (HPT.out _))))
          have HTD := Lib.hid (HTA.out.below (below_drewN (Below.refl _ _) nq))
          have HBD := Lib.hid (HBS.out.drewN nq)
          revert HTD HBD
          generalize (wr.alloc (.cells #[.int .i64 s.kind, .int .i64 s.who, .int .i64 s.to_, .int .i64 s.src, .int .i64 s.leave, .string s.name, .int .i64 s.tm] 30)).drewN nq = Wd
          intro HTD HBD
          have c0 : Wd.cell? ⟨bs, 0, none⟩ = some (.int .i64 s.kind) := HBD.out.cell 0
          clear q1 q2 z0 z1 z2 z3 z4 z5 z6 HPU HPT HTA HBS
          by_cases hk6 : s.kind = 6
          · have d6 : (s.kind == 6) = true := by rw [hk6]; rfl
            clear hk6
            have hut := HTD.out.po u hu
            rcases hut with ⟨hpu, hru⟩ | ⟨x, y, nb, L', H', hpu, hru, hps, hal⟩
            · have cw := (HTD.out.at_.cell hu).1
              have rw_ := (HTD.out.ar.cell hu).1
              rw [hpu] at cw
              rw [hru] at rw_
              obtain ⟨ct1, ct2⟩ := HTD.out.at_.cell ht
              obtain ⟨rt1, rt2⟩ := HTD.out.ar.cell ht
              have hne : br ≠ bt := fun e => HTD.out.nb.2.2.1 e.symm
              have HTF := Lib.hid (HTD.out.copied ht (p' := none) (r' := none) (Xn := fun _ => False) (Below.refl _ _) (Below.refl _ _) (.inl ⟨rfl, rfl⟩) (fun b h => h.elim))
              have f1 := (HTD.out.ar.far (a := ⟨bt, t, none⟩) hne (.pointer none)).cell hu
              have f2 := (HTD.out.ar.far (a := ⟨bt, t, none⟩) hne (.pointer none)).cell ht
              obtain ⟨f11, f12⟩ := f1
              obtain ⟨f21, f22⟩ := f2
              rw [hru] at f11
              have HBF := Lib.hid ((HBD.out.far (p := ⟨bt, t, none⟩) hne1 (.pointer none)).far (p := ⟨br, t, none⟩) hne2 (.pointer none))
              have e1 := (HTF.out.at_.cell ht).1
              have e2 := (HTF.out.ar.cell ht).1
              rw [updF_same] at e1 e2
              clear hpu hru
              go_wp2_with (first
                | (go_at_call 29; (with_reducible refine (Copy_no (HNO.out _)).mono ?_); rintro e wn ⟨rfl, rfl⟩)
                | (go_at_call 19; (with_reducible refine (rCopy_no _).mono ?_); rintro e wn ⟨rfl, rfl⟩))
              revert HTF HBF e1 e2
              generalize (Wd.setCell ⟨bt, t, none⟩ (.pointer none)).setCell ⟨br, t, none⟩ (.pointer none) = Wx
              intro HTF HBF e1 e2
              go_quiet (fail)
              have HTF2 := Lib.hid (HTF.out.below (below_drewN (Below.refl _ _) nq))
              have HBF2 := Lib.hid (HBF.out.drewN nq)
              clear e1 e2 HTF HBF c0 HTD HBD
              revert HTF2 HBF2
              generalize Wx.drewN nq = Wf
              intro HTF HBF
              have c0 : True := trivial
              go_wp2
              have HTG := Lib.hid (HTF.out.below (below_drew Wf))
              have HCALL := Lib.hid (HPL.out _ _ _ _ _ (HTG.out.po u hu) hB2)
              have b0 := HBF.out.cell 0
              have b1 := HBF.out.cell 1
              have b2 := HBF.out.cell 2
              have b3 := HBF.out.cell 3
              have b4 := HBF.out.cell 4
              have b5 := HBF.out.cell 5
              have b6 := HBF.out.cell 6
              have t0 := (HTF.out.at_.cell hu).1
              have t1 := (HTF.out.ar.cell hu).1
              go_still_tail 7, (by kernel_rfl)
              change wpList _ _ _ _ _ Wf.drew
              revert HTG HCALL
              generalize Wf.drew = WG
              intro HTG HCALL
              clear b0 b1 b2 b3 b4 b5 b6 t0 t1 c0 HTF HBF
              go_wp2_with (first
                | (go_at_call 21; (with_reducible refine HCALL.out.mono ?_); rintro e wp ⟨rfl, hpo, ho⟩
                   have HTH := Lib.hid (HTG.out.played hu (Nat.le_add_right _ 2) hpo ho)
                   clear hpo ho))
              go_roundw
              case rel => exact ⟨i + 1, _, _, _, by go_num, by omega, by rw [show 2 * (i + 1) = 2 * i + 2 by omega]; exact HTH.out⟩
              case measure => simp [intOf]; omega
            · obtain ⟨T', hht, Xc, Xr, n', hc', hr', hn1, hn2, hdj, hsc, hsr, hxl, _⟩ := hps.ex
              have hbtl := HTD.out.at_.lt
              have HCC := Lib.hid (Copy_any hc' hht hps.ok hal (by omega))
              have HHT := Lib.hid hht
              have HOK6 := Lib.hid hps.ok
              have HAL6 := Lib.hid hal
              have HBT : Hid (bt < Wd.heap.size) := hbtl
              have hnxr : ¬ Xr bt := fun h => (HTD.out.nt u hu).1 (hsr bt h)
              have HN1 := Lib.hid hn1
              have HN2 := Lib.hid hn2
              have HRC : Hid (∀ w8 q, Below Wd.heap.size Wd w8 → Calls Try.prog 19 #[.pointer (some ⟨y, 0, none⟩)] (w8.setCell ⟨bt, t, none⟩ (.pointer q)) fun e w' => ∃ d, e = .returned (.pointer (some ⟨d, 0, none⟩)) ∧ Rc w' (Nw (w8.setCell ⟨bt, t, none⟩ (.pointer q)) w') d L' H' ∧ Below (w8.setCell ⟨bt, t, none⟩ (.pointer q)).heap.size (w8.setCell ⟨bt, t, none⟩ (.pointer q)) w') := fun w8 q hb8 => rCopy_any ((hr'.below hb8).keep (Only.set (X := fun b => b = bt) ⟨bt, t, none⟩ _ rfl w8) (fun k hk e => by subst e; exact hnxr hk)) (by omega)
              have cw := (HTD.out.at_.cell hu).1
              rw [hpu] at cw
              have hne : br ≠ bt := fun e => HTD.out.nb.2.2.1 e.symm
              have HRU := Lib.hid hru
              clear hps hht hc' hr' hn1 hn2 hdj hsc hsr hxl hbtl hnxr hal hpu hru
              go_wp2_with (first
                | (go_at_call 29; (with_reducible refine HCC.out.mono ?_); rintro e w8 ⟨x', nb', rfl, ⟨n8, hk8, hn8⟩, hc8, hb8⟩
                   have HK8 := Lib.hid hk8
                   have HN8 := Lib.hid hn8
                   have HB8 := Lib.hid hb8
                   obtain ⟨ct1, ct2⟩ := (HTD.out.at_.below hb8).cell ht
                   have hbtn : bt ≠ br := Ne.symm hne
                   have HAS : Hid (Ar (w8.setCell ⟨bt, t, none⟩ (.pointer (some ⟨x', 0, none⟩))) br 61 r) := (HTD.out.ar.below hb8).far (a := ⟨bt, t, none⟩) hne _
                   have f11 := (HAS.out.cell hu).1
                   rw [HRU.out] at f11
                   have HRC8 := Lib.hid (HRC.out w8 (some ⟨x', 0, none⟩) hb8)
                   clear hk8 hn8 hc8 hb8)
                | (go_at_call 19; (with_reducible refine HRC8.out.mono ?_); rintro e w9 ⟨y', rfl, hk9, hb9⟩
                   have HK9 := Lib.hid hk9
                   have HB9 := Lib.hid hb9
                   obtain ⟨rt1, rt2⟩ := (HAS.out.below hb9).cell ht
                   clear hk9 hb9))
              have hb9 := HB9.out
              rw [World.size_setCell] at hb9
              have hsz8 : (w8.setCell ⟨bt, t, none⟩ (.pointer (some ⟨x', 0, none⟩))).heap.size = w8.heap.size := by simp
              have h8s := HB8.out.size
              have h9s := hb9.size
              rw [hsz8] at h9s
              obtain ⟨nb9, hp9⟩ := PrS.made (W := w9) (HK8.out.keep (Only.set (X := fun b => b = bt) ⟨bt, t, none⟩ (.pointer (some ⟨x', 0, none⟩)) rfl w8) (fun k hk e => by have := hk.1; have := HBT.out; omega)) HK9.out HHT.out HOK6.out (by rw [hsz8]; exact Nat.le_refl _) HB9.out (Below.refl _ _) (B := 2 * i) (by have := HN8.out; have := HN1.out; omega) HN2.out
              have HTF := Lib.hid (HTD.out.copied ht (p' := some ⟨x', 0, none⟩) (r' := some ⟨y', 0, none⟩) HB8.out hb9 (.inr ⟨_, _, _, _, _, rfl, rfl, hp9, HAL6.out⟩) (fun b hb => by
                rcases hb with hb | hb
                · have := hb.1; have := hb.2; omega
                · have h1 := hb.1; have := hb.2; rw [hsz8] at h1; omega))
              have HBF := Lib.hid (((HBD.out.below HB8.out).far (p := ⟨bt, t, none⟩) hne1 (.pointer (some ⟨x', 0, none⟩))).below HB9.out |>.far (p := ⟨br, t, none⟩) hne2 (.pointer (some ⟨y', 0, none⟩)))
              have e1 := (HTF.out.at_.cell ht).1
              have e2 := (HTF.out.ar.cell ht).1
              rw [updF_same] at e1 e2
              clear hb9 h8s h9s hsz8 hp9
              revert HTF HBF e1 e2
              generalize w9.setCell ⟨br, t, none⟩ (.pointer (some ⟨y', 0, none⟩)) = Wx
              intro HTF HBF e1 e2
              go_quiet (fail)
              have HTF2 := Lib.hid (HTF.out.below (below_drewN (Below.refl _ _) nq))
              have HBF2 := Lib.hid (HBF.out.drewN nq)
              clear e1 e2 HTF HBF c0 HTD HBD
              revert HTF2 HBF2
              generalize Wx.drewN nq = Wf
              intro HTF HBF
              have c0 : True := trivial
              go_wp2
              have HTG := Lib.hid (HTF.out.below (below_drew Wf))
              have HCALL := Lib.hid (HPL.out _ _ _ _ _ (HTG.out.po u hu) hB2)
              have b0 := HBF.out.cell 0
              have b1 := HBF.out.cell 1
              have b2 := HBF.out.cell 2
              have b3 := HBF.out.cell 3
              have b4 := HBF.out.cell 4
              have b5 := HBF.out.cell 5
              have b6 := HBF.out.cell 6
              have t0 := (HTF.out.at_.cell hu).1
              have t1 := (HTF.out.ar.cell hu).1
              go_still_tail 7, (by kernel_rfl)
              change wpList _ _ _ _ _ Wf.drew
              revert HTG HCALL
              generalize Wf.drew = WG
              intro HTG HCALL
              clear b0 b1 b2 b3 b4 b5 b6 t0 t1 c0 HTF HBF
              go_wp2_with (first
                | (go_at_call 21; (with_reducible refine HCALL.out.mono ?_); rintro e wp ⟨rfl, hpo, ho⟩
                   have HTH := Lib.hid (HTG.out.played hu (Nat.le_add_right _ 2) hpo ho)
                   clear hpo ho))
              go_roundw
              case rel => exact ⟨i + 1, _, _, _, by go_num, by omega, by rw [show 2 * (i + 1) = 2 * i + 2 by omega]; exact HTH.out⟩
              case measure => simp [intOf]; omega
          · have d6 : (s.kind == 6) = false := beq_eq_false_iff_ne.2 hk6
            clear hk6
            have HTF := HTD
            have HBF := HBD
            clear HTD HBD
            go_wp2
            have HTG := Lib.hid (HTF.out.below (below_drew Wd))
            have HCALL := Lib.hid (HPL.out _ _ _ _ _ (HTG.out.po u hu) hB2)
            have b0 := HBF.out.cell 0
            have b1 := HBF.out.cell 1
            have b2 := HBF.out.cell 2
            have b3 := HBF.out.cell 3
            have b4 := HBF.out.cell 4
            have b5 := HBF.out.cell 5
            have b6 := HBF.out.cell 6
            have t0 := (HTF.out.at_.cell hu).1
            have t1 := (HTF.out.ar.cell hu).1
            go_still_tail 7, (by kernel_rfl)
            change wpList _ _ _ _ _ Wd.drew
            revert HTG HCALL
            generalize Wd.drew = WG
            intro HTG HCALL
            clear b0 b1 b2 b3 b4 b5 b6 t0 t1 c0 HTF HBF
            go_wp2_with (first
              | (go_at_call 21; (with_reducible refine HCALL.out.mono ?_); rintro e wp ⟨rfl, hpo, ho⟩
                 have HTH := Lib.hid (HTG.out.played hu (Nat.le_add_right _ 2) hpo ho)
                 clear hpo ho))
            go_roundw
            case rel => exact ⟨i + 1, _, _, _, by go_num, by omega, by rw [show 2 * (i + 1) = 2 * i + 2 by omega]; exact HTH.out⟩
            case measure => simp [intOf]; omega
        · obtain rfl : i = m := by omega
          obtain ⟨wz, rfl⟩ : ∃ wz : World, wz = wr := ⟨_, rfl⟩
          go_wp2
          go_loopw [23] (fun jv wr => ∃ j : Nat, jv = .int .i64 (j : Int) ∧ j ≤ 3 ∧ Below wz.heap.size wz wr) (fun jv _ => 3 - (intOf jv).toNat)
          case atStart => exact ⟨0, rfl, by omega, Below.refl _ _⟩
          case round =>
            obtain ⟨j, rfl, hj, hbz⟩ := hrel
            have HTZ := Lib.hid (HT.out.below hbz)
            have HBZ := Lib.hid hbz
            clear hbz
            by_cases hj3 : j < 3
            · have hji : (j : Int) < 3 := by omega
              have HS := Lib.hid (HTZ.out.below (below_drew wr))
              have HSB := Lib.hid (HBZ.out.trans ((below_drew wr).mono HBZ.out.size))
              have hgb : 2 * i ≤ 4398046511104 := by omega
              go_wp2
              go_region_held3 (fun W1 => W1.cell? ⟨bt, j, none⟩ = some (.pointer (p j)) ∧ W1.cell? ⟨br, j, none⟩ = some (.pointer (r j)))
                (first
                  | exact ⟨(HS.out.at_.cell hj3).1, (HS.out.ar.cell hj3).1⟩
                  | exact ⟨(HTZ.out.at_.cell hj3).1, (HTZ.out.ar.cell hj3).1⟩)
                (first
                  | (go_at_call 22; (with_reducible refine ((HS.out.po j hj3).tells).mono ?_); rintro e wt ⟨rfl, hb⟩
                     replace HS := Lib.hid (HS.out.below hb)
                     replace HSB := Lib.hid (HSB.out.trans (hb.mono HSB.out.size))
                     clear hb)
                  | (go_at_call 23; (with_reducible refine ((HS.out.po j hj3).goes hgb 0).mono ?_); rintro e wt ⟨rfl, hb⟩
                     replace HS := Lib.hid (HS.out.below hb)
                     replace HSB := Lib.hid (HSB.out.trans (hb.mono HSB.out.size))
                     clear hb))
              all_goals go_simp
              all_goals go_wp2
              all_goals go_roundw
              all_goals first
                | exact ⟨j + 1, by go_num, by omega, HSB.out⟩
                | (simp [intOf]; omega)
            · obtain rfl : j = 3 := by omega
              have HF := Lib.hid (HT.out.bl.trans (HBZ.out.mono HT.out.nb.2.2.2))
              go_wp2_with (first
                | (go_at_call 7; (with_reducible refine (known_any _).mono ?_); rintro e wk ⟨rfl, hb⟩
                   have HF2 := Lib.hid (HF.out.trans (hb.mono HF.out.size))
                   clear hb))
              go_ret
              exact ⟨rfl, HF2.out⟩
end Go.Proofs.Ytdndljbagjfkkaa
