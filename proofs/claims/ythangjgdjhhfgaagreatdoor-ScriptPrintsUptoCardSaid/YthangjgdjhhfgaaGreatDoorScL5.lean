/- script.Line (written by gen_scl5.py). -/
import Derived.Test.YthangjgdjhhfgaaGreatDoorScL4
namespace Go.Proofs.YthangjgdjhhfgaaGreatDoor
open Go.RowKit
set_option linter.unusedVariables false
def lineV (m : Mv) : Value := match lineO m with
  | some s => .tuple #[.string (tx s), .bool true]
  | none => .tuple #[.string (tx []), .bool false]
theorem joinW_len (K : Nat) : ∀ (ws : List (List UInt8)), (∀ s ∈ ws, s.length ≤ K) → (joinW ws).length ≤ ws.length * (K + 1)
  | [], _ => by simp [joinW_nil]
  | [a], h => by have := h a (List.mem_cons_self ..); rw [joinW_one]; simp; omega
  | a :: b :: r, h => by
    have h1 := h a (List.mem_cons_self ..)
    have h2 := joinW_len K (b :: r) (fun s hs => h s (List.mem_cons_of_mem _ hs))
    rw [joinW_cons]
    simp only [List.length_append, List.length_cons] at h2 ⊢
    rw [Nat.add_mul (r.length + 1) 1]
    omega
theorem join_any (bk n cap : Nat) (ws : List (List UInt8)) (w : World) (hn : n = ws.length) (hc : ∀ i, (hi : i < ws.length) → w.cell? ⟨bk, i, none⟩ = some (.string (tx (ws[i])))) (hb : bk < w.heap.size) (hcap : n ≤ cap) (hl : ws.length ≤ 1000) (hs : ∀ s ∈ ws, s.length ≤ 9000000) :
    Calls Tryz.prog 17 #[.slice (some ⟨bk, 0, none⟩) n cap, .string (tx [32])] w fun x w' => x = .returned (.string (tx (joinW ws))) ∧ Below w.heap.size w w' := by
  subst hn
  have hj : Lib.join ((ws.map tx).map (·.data.toList)) (tx [32]).data.toList = joinW ws := by
    rw [List.map_map, tx_data]
    have : (ws.map ((fun x : ByteArray => x.data.toList) ∘ tx)) = ws := by
      have h : ((fun x : ByteArray => x.data.toList) ∘ tx) = id := funext fun l => tx_data l
      rw [h, List.map_id]
    rw [this]
    rfl
  have hlen := joinW_len 9000000 ws hs
  have := Any.strings_Join L.lays156 L.Builder_Extra_156 bk 0 cap (ws.map tx) (tx [32]) w (fun j x hj => by
    rw [List.getElem?_map] at hj
    cases hw : ws[j]? with
    | none => rw [hw] at hj; cases hj
    | some y =>
      rw [hw] at hj
      cases hj
      obtain ⟨hjl, hy⟩ := List.getElem?_eq_some_iff.1 hw
      rw [Nat.zero_add, hc j hjl, hy]) hb (by simp; omega) (by simpa using hcap) (by rw [hj]; have := Nat.mul_le_mul_right 9000001 hl; omega)
  rw [hj, List.length_map] at this
  exact this
theorem own_iter {w : World} {base : Nat} {e : TypeId} {s n cap : Nat} {a : Option Addr} {xs : List Value} (h : OwnS w base e s a n cap xs) {ib : Nat} {t : ByteArray} {pos : Nat} (hit : w.heap[ib]? = some (.stringIter t pos)) : ∀ x, a = some x → x.block ≠ ib := by
  intro x hx he
  subst hx
  rcases h.2 with ⟨h3, _⟩ | ⟨g, c', cur, h3, _, h5, _⟩
  · cases h3
  · cases h3
    simp only at he
    rw [he] at h5
    rw [h5] at hit
    cases hit
/-- What a round of Line keeps. -/
structure LnI (w0 : World) (mb ib : Nat) (lt : List UInt8) (full : List (List UInt8)) (rest : Mv) (a : Option Addr) (n cap pos : Nat) (w : World) : Prop where
  it : w.heap[ib]? = some (.stringIter (tx lt) pos)
  le : pos ≤ lt.length
  ex : ∃ mc ws, MrAt w0 w mb mc ∧ OwnS w w0.heap.size 9 1 a n cap (ws.map fun p => Value.string (tx p)) ∧ ws ++ putL (lt.drop pos) mc = full ∧ restM (lt.drop pos) mc = rest ∧ MvOk mc ∧ mc.b.length ≤ 4000000 ∧ mc.d.length ≤ 4000000 ∧ ws.length = pos + 1 ∧ ∀ s ∈ ws, s.length ≤ 9000000
theorem lnstr_et : ET Tryz.prog 40 9 1 16 := et_of (by kernel_rfl)
theorem wordK_len : ∀ k, k < 27 → (wordK k).length ≤ 10 := by decide
set_option maxRecDepth 100000 in
set_option maxHeartbeats 16000000 in
theorem line_any (m : Mv) (aB : Option Addr) (nB cB : Nat) (aD : Option Addr) (nD cD : Nat) (w : World) (hB : BR w aB nB m.b) (hD : BR w aD nD m.d) (ok : MvOk m) (hb : m.b.length ≤ 4000000) (hd : m.d.length ≤ 4000000) (hV : Vars w) :
    Calls Tryz.prog 8 #[.agg (mvCs m (.slice aB nB cB) (.slice aD nD cD))] w fun e w' => e = .returned (lineV m) ∧ Below w.heap.size w w' := by
  have b1 : Below w.heap.size w (w.alloc (.cells (mvCs m (.slice aB nB cB) (.slice aD nD cD)) 35)) := (Below.refl _ _).alloc (Nat.le_refl _) _
  have n1 := Blk.new w (mvCs m (.slice aB nB cB) (.slice aD nD cD)) 35
  have hs1 : (w.alloc (.cells (mvCs m (.slice aB nB cB) (.slice aD nD cD)) 35)).heap.size = w.heap.size + 1 := by simp
  obtain ⟨w1, hw1⟩ : ∃ w1, w.alloc (.cells (mvCs m (.slice aB nB cB) (.slice aD nD cD)) 35) = w1 := ⟨_, rfl⟩
  rw [hw1] at b1 n1 hs1
  have M1 : Hid (MrAt w w1 w.heap.size m) := Lib.hid ⟨b1, Nat.le_refl _, aB, nB, cB, aD, nD, cD, n1, hB, hD⟩
  have c0 : (w.alloc (.cells (mvCs m (.slice aB nB cB) (.slice aD nD cD)) 35)).cell? ⟨w.heap.size, 0, none⟩ = some (.int .u8 (m.kind : Nat)) := (Blk.new w _ _).cell 0 _ rfl
  have HB1 := Lib.hid b1
  have HS1 := Lib.hid hs1
  have HW1 := Lib.hid hw1
  have HOK := Lib.hid ok
  have HLB := Lib.hid hb
  have HLD := Lib.hid hd
  have HV := Lib.hid hV
  have hk255 := ok.kind
  obtain ⟨V, hVV⟩ : ∃ V, lineV m = V := ⟨_, rfl⟩
  rw [hVV]
  have HVV := Lib.hid hVV
  obtain ⟨k, hk⟩ : ∃ k, m.kind = k := ⟨_, rfl⟩
  rw [hk] at c0 hk255
  have HK := Lib.hid hk
  clear b1 n1 hs1 hw1 hB hD ok hb hd hV hVV hk
  go_enter Tryz.func8, Tryz.ntmps8
  go_wp2_with (fail)
  rw [HW1.out]
  clear c0
  refine (form_any k w1 (by omega) (HV.out.below HB1.out).mx (HV.out.below HB1.out).g2).mono ?_
  rintro e w2 ⟨rfl, hb2⟩
  have B2 := Lib.hid (below_on HB1.out hb2 HB1.out.size)
  have M2 := Lib.hid (M1.out.on hb2)
  have HS2 : Hid (w.heap.size + 1 ≤ w2.heap.size) := Lib.hid (by rw [← HS1.out]; exact hb2.size)
  clear hb2
  by_cases hi : isK k = true
  · rw [show formV k = .tuple #[.string (tx (wordK k)), .string (tx (letK k)), .bool true] from if_pos hi]
    have hik : 1 ≤ k ∧ k ≤ 26 := by simpa [isK] using hi
    have hwl := wordK_len k (by omega)
    have hlo := let_ok k (by omega)
    have hll3 := let_len k (by omega)
    have hV2 : lineV m = if bareM (restM (letK k) m) = true then .tuple #[.string (tx (joinW (wordK k :: putL (letK k) m))), .bool true] else .tuple #[.string (tx []), .bool false] := by
      unfold lineV lineO
      rw [HK.out, hi, Bool.true_and]
      by_cases hbb : bareM (restM (letK k) m) = true
      · rw [if_pos hbb, if_pos hbb]
      · rw [if_neg hbb, if_neg hbb]
    rw [HVV.out] at hV2
    obtain ⟨wd, hwd⟩ : ∃ x, wordK k = x := ⟨_, rfl⟩
    obtain ⟨lt, hlt⟩ : ∃ x, letK k = x := ⟨_, rfl⟩
    rw [hwd] at hV2 hwl ⊢
    rw [hlt] at hV2 hlo hll3 ⊢
    obtain ⟨ll, hll⟩ : ∃ ll, lt.length = ll := ⟨_, rfl⟩
    have hsz : (tx lt).size = ll := by rw [tx_size, hll]
    rw [hll] at hll3
    obtain ⟨full, hfull⟩ : ∃ x, wd :: putL lt m = x := ⟨_, rfl⟩
    obtain ⟨rst, hrst⟩ : ∃ x, restM lt m = x := ⟨_, rfl⟩
    rw [hfull, hrst] at hV2
    have HV2 := Lib.hid hV2
    have HLL := Lib.hid hll
    have HLO := Lib.hid hlo
    -- the row of words, and the letters' iterator
    have o3 : OwnS (w2.alloc (.cells #[.string (tx wd)] 9)) w.heap.size 9 1 (some ⟨w2.heap.size, 0, none⟩) 1 1 [Value.string (tx wd)] := OwnS.new w2 w.heap.size (by have := HS2.out; omega) 9 1 1 #[.string (tx wd)] (by simp only [maxLen]; omega) rfl
    have e3 : Below w2.heap.size w2 (w2.alloc (.cells #[.string (tx wd)] 9)) := (Below.refl _ _).alloc (Nat.le_refl _) _
    have z3 : (w2.alloc (.cells #[.string (tx wd)] 9)).heap.size = w2.heap.size + 1 := by simp
    obtain ⟨w3, hw3⟩ : ∃ w3, w2.alloc (.cells #[.string (tx wd)] 9) = w3 := ⟨_, rfl⟩
    rw [hw3] at o3 e3 z3
    have HST : Hid (LnI w w.heap.size (w2.heap.size + 1) lt full rst (some ⟨w2.heap.size, 0, none⟩) 1 1 0 (w3.iter (tx lt) 0)) := Lib.hid ⟨by rw [← z3]; exact World.iter_heap _ _ _, Nat.zero_le _, m, [wd], (M2.out.on e3).on ((Below.refl _ _).alloc (Nat.le_refl _) _), o3.below ((Below.refl _ _).alloc (Nat.le_refl _) _), hfull, hrst, HOK.out, HLB.out, HLD.out, rfl, fun s hs => by rw [List.mem_singleton] at hs; subst hs; omega⟩
    have HW3 := Lib.hid hw3
    have HZ3 := Lib.hid z3
    clear hV2 hwd hlt hll hfull hrst hlo o3 e3 z3 hw3 hi hik hwl
    go_wp2_with (fail)
    rw [HW3.out]
    have hz2 := HS2.out
    obtain ⟨ib, hib⟩ : ∃ ib, w2.heap.size + 1 = ib := ⟨_, rfl⟩
    have hibb : w.heap.size < ib := by omega
    rw [hib] at HST ⊢
    obtain ⟨g0, hg0⟩ : ∃ g0, w2.heap.size = g0 := ⟨_, rfl⟩
    rw [hg0] at HST ⊢
    clear hib hg0 hz2
    go_loopw [7, 9] (fun l _ wr => ∃ (pos n cap : Nat) (a : Option Addr), l = .slice a n cap ∧ Hid (LnI w w.heap.size ib lt full rst a n cap pos wr)) (fun _ _ wr => ll - wr.iterPos ib)
    case atStart => exact ⟨0, 1, 1, _, rfl, HST⟩
    case round =>
      obtain ⟨pos, n, cap, a, rfl, hok⟩ := hrel
      have hit := hok.out.it
      by_cases hp : pos < ll
      · have hps : pos < (tx lt).size := by rw [hsz]; exact hp
        have hpl : pos < lt.length := by rw [HLL.out]; exact hp
        obtain ⟨c, hcx⟩ : ∃ c, lt.getD pos 0 = c := ⟨_, rfl⟩
        have hcm : c ∈ lt := by rw [← hcx]; simp [hpl]
        have hco := HLO.out c hcm
        have hc128 : c.toNat < 128 := by rcases hco with rfl | rfl | rfl | rfl | rfl | rfl <;> decide
        have hcg : ∀ h, (tx lt)[pos]'h = c := fun h => by rw [tx_get, hcx]
        have hnx : ∀ ty, (Instr.next (.pointer (some ⟨ib, 0, none⟩)) true ty).run Tryz.prog wr = .ok (.tuple #[.bool true, .int .i64 pos, .int .i32 (c.toNat : Nat)]) (wr.iterAt ib (tx lt) (pos + 1)) := fun ty => by
          have := Lib.run_next_ascii_at (P := Tryz.prog) wr ib (tx lt) pos ty hit hps (by rw [hcg]; exact hc128)
          rw [hcg] at this; exact this
        have hdr := drop_cons hpl
        rw [hcx] at hdr
        have HDR := Lib.hid hdr
        have HCO := Lib.hid hco
        have HIT := Lib.hid hit
        have HPL := Lib.hid hpl
        clear hdr hco hcm hcg hc128 hcx hpl
        go_wp2_with (fail)
        have oth : Only (fun i => i = ib) wr (wr.iterAt ib (tx lt) (pos + 1)) := ⟨rfl, rfl, rfl, by rw [Lib.iterAt_size]; exact Nat.le_refl _, fun i hi hne => Lib.iterAt_other wr ib i _ _ hne⟩
        obtain ⟨mc, ws, hmc, hown, hful, hres, hmok, hmb, hmd, hwsl, hwss⟩ := hok.out.ex
        rw [HDR.out, putL] at hful
        rw [HDR.out, restM] at hres
        have MC := Lib.hid (hmc.other oth (fun k hk e => by omega) (by omega))
        have OW := Lib.hid (hown.only oth (fun x hx => own_iter hown HIT.out x hx))
        have IT9 := Lib.hid (Lib.iterAt_heap wr ib (tx lt) pos (pos + 1) HIT.out)
        obtain ⟨w9, hw9⟩ : ∃ w9, wr.iterAt ib (tx lt) (pos + 1) = w9 := ⟨_, rfl⟩
        rw [hw9] at MC OW IT9 ⊢
        have HFUL := Lib.hid hful
        have HRES := Lib.hid hres
        have HMOK := Lib.hid hmok
        have HMB := Lib.hid hmb
        have HMD := Lib.hid hmd
        have HWSS := Lib.hid hwss
        have HWSL := Lib.hid hwsl
        clear hmc hown hful hres hmok hmb hmd hwsl hwss oth hw9
        refine (put_any w w9 w.heap.size c HCO.out mc MC.out HMOK.out HMB.out HMD.out (HV.out.below MC.out.below) HV.out).mono ?_
        rintro e wA ⟨rfl, hmA, onA⟩
        have hfl := fieldS_len (c := c) HMOK.out HMB.out HMD.out
        obtain ⟨fs, hfs⟩ : ∃ x, fieldS c mc = x := ⟨_, rfl⟩
        rw [hfs] at hfl ⊢
        have HFUL2 := HFUL.out
        rw [hfs] at HFUL2
        have HFL := Lib.hid hfl
        have HF2 := Lib.hid HFUL2
        obtain ⟨_, _, _, _, _, _, _, _, hblk9, _⟩ := MC.out
        have OWA := Lib.hid (OW.out.only onA (fun x hx e => own_blk (T := 35) (by decide) OW.out hblk9 ⟨x, hx, e⟩))
        have ITA : Hid (wA.heap[ib]? = some (.stringIter (tx lt) (pos + 1))) := Lib.hid (by rw [onA.block _ (lt_of_iter IT9.out) (by omega)]; exact IT9.out)
        have MA := Lib.hid hmA
        have hnn : n = ws.length := by have := OWA.out.length; simp at this; omega
        have hn4 : n ≤ 100 := by have := HWSL.out; omega
        have HNN := Lib.hid hnn
        clear hmA onA hfs HFUL2 hfl hblk9 hnn
        go_wp2_with (at_builtin; refine Stop.mk ?_)
        refine Stop.out ?_
        have hbB : Below wA.heap.size wA (wA.alloc (.cells #[.string (tx fs)] 9)) := (Below.refl _ _).alloc (Nat.le_refl _) _
        refine wpList_app lnstr_et rfl rfl (base := w.heap.size) rfl rfl (OWA.out.below hbB) (SrcAt.one _ _ _ rfl) (by simp only [maxLen]; omega) (by omega) (by have := MA.out.below.size; simp; omega) ?_
        intro a6 c6 w6 ho6 on6 at6
        have MB := MA.out.on hbB
        obtain ⟨_, _, _, _, _, _, _, _, hblkB, _⟩ := MB
        have FIN : Hid (LnI w w.heap.size ib lt full rst a6 (n + 1) c6 (pos + 1) w6) := Lib.hid ⟨by
            rw [on6.block _ (by have := lt_of_iter ITA.out; simp; omega) (by rintro ⟨y, hy, e⟩; exact own_iter OWA.out ITA.out y hy e), hbB.block _ (lt_of_iter ITA.out)]; exact ITA.out, HPL.out, clearM c mc, ws ++ [fs], (MA.out.on hbB).other on6 (by rintro z hz ⟨y, hy, rfl⟩; have := (OWA.out.block hy).1; omega) (own_blk (T := 35) (by decide) (OWA.out.below hbB) hblkB), by rw [List.map_append]; exact ho6, by rw [← HF2.out]; simp, HRES.out, clear_ok HMOK.out, Nat.le_trans clear_len.1 HMB.out, Nat.le_trans clear_len.2.1 HMD.out, by have := HWSL.out; simp; omega, fun s hs => by
            rcases List.mem_append.1 hs with hs | hs
            · exact HWSS.out s hs
            · rw [List.mem_singleton] at hs; subst hs; exact HFL.out⟩
        have hposA := iterPos_of FIN.out.it
        have hposR := iterPos_of HIT.out
        clear ho6 on6 at6 hbB hblkB
        go_wp2_with (fail)
        exact ⟨⟨pos + 1, n + 1, c6, a6, rfl, FIN⟩, by rw [hposA, hposR]; omega⟩
      · have hpn : ¬ pos < (tx lt).size := by rw [hsz]; exact hp
        have hnx : ∀ ty, (Instr.next (.pointer (some ⟨ib, 0, none⟩)) true ty).run Tryz.prog wr = .ok (.tuple #[.bool false]) wr := fun ty => Lib.run_next_end_at (P := Tryz.prog) wr ib (tx lt) pos ty hit hpn
        obtain ⟨mc, ws, hmc, hown, hful, hres, hmok, hmb, hmd, hwsl, hwss⟩ := hok.out.ex
        rw [List.drop_of_length_le (by rw [HLL.out]; omega)] at hful hres
        rw [putL, List.append_nil] at hful
        rw [restM] at hres
        subst hful hres
        obtain ⟨kind, side, n_, id_, code, b_, from_, to_, d_⟩ := mc
        obtain ⟨hbl, _, aB', nB', cB', aD', nD', cD', hblk, hbB, hbD⟩ := hmc
        have q1 : wr.cell? ⟨w.heap.size, 1, none⟩ = some (.int .u8 (side : Nat)) := hblk.cell 1 _ rfl
        have q2 : wr.cell? ⟨w.heap.size, 2, none⟩ = some (.int .i64 n_) := hblk.cell 2 _ rfl
        have q3 : wr.cell? ⟨w.heap.size, 3, none⟩ = some (.int .u64 (id_ : Nat)) := hblk.cell 3 _ rfl
        have q4 : wr.cell? ⟨w.heap.size, 4, none⟩ = some (.int .u64 (code : Nat)) := hblk.cell 4 _ rfl
        have q5 : wr.cell? ⟨w.heap.size, 5, none⟩ = some (.slice aB' nB' cB') := hblk.cell 5 _ rfl
        have q6 : wr.cell? ⟨w.heap.size, 6, none⟩ = some (.int .u32 (from_ : Nat)) := hblk.cell 6 _ rfl
        have q7 : wr.cell? ⟨w.heap.size, 7, none⟩ = some (.int .u32 (to_ : Nat)) := hblk.cell 7 _ rfl
        have q8 : wr.cell? ⟨w.heap.size, 8, none⟩ = some (.slice aD' nD' cD') := hblk.cell 8 _ rfl
        have hbl' := Lib.hid hbl
        have hv := HV2.out
        have hnb : nB' = b_.length := hbB.len
        have hnd : nD' = d_.length := hbD.len
        simp only at hmb hmd
        have hb4 : nB' ≤ 4000000 := by omega
        have hd4 : nD' ≤ 4000000 := by omega
        have hsum : b_.length + d_.length = nB' + nD' := by omega
        simp only [bareM, hsum] at hv
        have OW := Lib.hid hown
        have HWSS := Lib.hid hwss
        have HWSL := Lib.hid hwsl
        have HLL3 : Hid (ws.length ≤ 4) := Lib.hid (by have := hok.out.le; have := HLL.out; omega)
        clear hbl hblk hbB hbD hmok hmb hmd hown hwss hwsl hit hpn hnb hnd hsum

        by_cases z0 : side = 0
        · skip
          subst z0
          by_cases z1 : n_ = 0
          · skip
            subst z1
            by_cases z2 : id_ = 0
            · skip
              subst z2
              by_cases z3 : code = 0
              · skip
                subst z3
                by_cases z4 : nB' + nD' = 0
                · skip
                  obtain rfl : nB' = 0 := by omega
                  obtain rfl : nD' = 0 := by omega
                  clear z4
                  by_cases z5 : from_ = 0
                  · skip
                    subst z5
                    by_cases z6 : to_ = 0
                    · skip
                      subst z6
                      rw [if_pos (by simp)] at hv
                      have HVF := Lib.hid hv
                      clear hv
                      have hnn : n = ws.length := by have := OW.out.length; simp at this; omega
                      have hwp : 0 < ws.length := by have := HWSL.out; omega
                      obtain ⟨g, rfl, _, hgl, _, _⟩ := OW.out.at_ (i := 0) (by simpa using hwp)
                      have HNN := Lib.hid hnn
                      have HGL := Lib.hid hgl
                      clear hnn hwp hgl
                      go_wp2_with (fail)
                      refine (join_any g n cap ws wr HNN.out (fun i hi => ?_) HGL.out OW.out.caps.1 (by have := HLL3.out; omega) HWSS.out).mono ?_
                      · obtain ⟨g', hg', _, _, hc, _⟩ := OW.out.at_ (i := i) (by simpa using hi)
                        cases hg'
                        rw [hc]; simp [hi]
                      rintro x wE ⟨rfl, bE⟩
                      go_wp2_with (fail)
                      go_returns
                      exact ⟨by rw [HVF.out]; rfl, below_on hbl'.out bE hbl'.out.size⟩
                    · rw [if_neg (by simp [z6])] at hv
                      have t6 : ((to_ : Int) != 0) = true := by simp; omega
                      have HVF := Lib.hid hv
                      clear hv z6
                      go_wp2_with (fail)
                      go_returns
                      exact ⟨by rw [HVF.out]; rfl, hbl'.out⟩
                  · rw [if_neg (by simp [z5])] at hv
                    have t5 : ((from_ : Int) != 0) = true := by simp; omega
                    have HVF := Lib.hid hv
                    clear hv z5
                    go_wp2_with (fail)
                    go_returns
                    exact ⟨by rw [HVF.out]; rfl, hbl'.out⟩
                · rw [if_neg (by simp; omega)] at hv
                  have t4 : (nB' : Int) + (nD' : Int) > 0 := by omega
                  have HVF := Lib.hid hv
                  clear hv z4
                  go_wp2_with (fail)
                  go_returns
                  exact ⟨by rw [HVF.out]; rfl, hbl'.out⟩
              · rw [if_neg (by simp [z3])] at hv
                have t3 : ((code : Int) != 0) = true := by simp; omega
                have HVF := Lib.hid hv
                clear hv z3
                go_wp2_with (fail)
                go_returns
                exact ⟨by rw [HVF.out]; rfl, hbl'.out⟩
            · rw [if_neg (by simp [z2])] at hv
              have t2 : ((id_ : Int) != 0) = true := by simp; omega
              have HVF := Lib.hid hv
              clear hv z2
              go_wp2_with (fail)
              go_returns
              exact ⟨by rw [HVF.out]; rfl, hbl'.out⟩
          · rw [if_neg (by simp [z1])] at hv
            have t1 : (n_ != 0) = true := by simp; omega
            have HVF := Lib.hid hv
            clear hv z1
            go_wp2_with (fail)
            go_returns
            exact ⟨by rw [HVF.out]; rfl, hbl'.out⟩
        · rw [if_neg (by simp [z0])] at hv
          have t0 : ((side : Int) != 0) = true := by simp; omega
          have HVF := Lib.hid hv
          clear hv z0
          go_wp2_with (fail)
          go_returns
          exact ⟨by rw [HVF.out]; rfl, hbl'.out⟩
  · rw [show formV k = .tuple #[.string (tx []), .string (tx []), .bool false] from if_neg hi]
    have hv : V = .tuple #[.string (tx []), .bool false] := by
      rw [← HVV.out]; unfold lineV lineO
      rw [HK.out, if_neg (by simp [hi])]
    have HVF := Lib.hid hv
    clear hv
    go_wp2_with (fail)
    go_returns
    exact ⟨by rw [HVF.out]; rfl, B2.out⟩
end Go.Proofs.YthangjgdjhhfgaaGreatDoor
