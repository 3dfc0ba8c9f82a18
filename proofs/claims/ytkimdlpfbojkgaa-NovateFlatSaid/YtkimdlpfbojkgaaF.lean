/- Facts on the program's types and functions. -/
import Derived.Test.YtkimdlpfbojkgaaProg
import Derived.Test.YtkimdlpfbojkgaaR
import Derived.KernelRfl
namespace Go.Proofs.Ytkimdlpfbojkgaa
theorem ent_54 : Enters Try.prog 54 := enters_of Try.func54 (by kernel_rfl) rfl
theorem ent_50 : Enters Try.prog 50 := enters_of Try.func50 (by kernel_rfl) rfl
theorem ent_56 : Enters Try.prog 56 := enters_of Try.func56 (by kernel_rfl) rfl
theorem fa_34_0 : FieldAt Try.prog 34 0 0 := fieldAt_of Try.underlying34 rfl (sz := 1) (by kernel_rfl) rfl rfl
theorem ent_49 : Enters Try.prog 49 := enters_of Try.func49 (by kernel_rfl) rfl
theorem fa_34_1 : FieldAt Try.prog 34 1 1 := fieldAt_of Try.underlying34 rfl (sz := 1) (by kernel_rfl) rfl rfl
theorem fa_34_2 : FieldAt Try.prog 34 2 2 := fieldAt_of Try.underlying34 rfl (sz := 1) (by kernel_rfl) rfl rfl
theorem fa_34_3 : FieldAt Try.prog 34 3 3 := fieldAt_of Try.underlying34 rfl (sz := 1) (by kernel_rfl) rfl rfl
theorem fa_34_4 : FieldAt Try.prog 34 4 4 := fieldAt_of Try.underlying34 rfl (sz := 1) (by kernel_rfl) rfl rfl
theorem ent_55 : Enters Try.prog 55 := enters_of Try.func55 (by kernel_rfl) rfl
theorem fa_34_5 : FieldAt Try.prog 34 5 5 := fieldAt_of Try.underlying34 rfl (sz := 1) (by kernel_rfl) rfl rfl
theorem fa_34_6 : FieldAt Try.prog 34 6 6 := fieldAt_of Try.underlying34 rfl (sz := 1) (by kernel_rfl) rfl rfl
theorem fa_34_7 : FieldAt Try.prog 34 7 7 := fieldAt_of Try.underlying34 rfl (sz := 1) (by kernel_rfl) rfl rfl
theorem sz_34 : (Try.prog.info? 34).map (·.size) = some 8 := by kernel_rfl
theorem ent_35 : Enters Try.prog 35 := enters_of Try.func35 (by kernel_rfl) rfl
theorem ent_51 : Enters Try.prog 51 := enters_of Try.func51 (by kernel_rfl) rfl
theorem ent_33 : Enters Try.prog 33 := enters_of Try.func33 (by kernel_rfl) rfl
theorem ea_22 : ElemAt Try.prog 22 8 := elemAt_of Try.underlying22 (by kernel_rfl)
theorem ent_32 : Enters Try.prog 32 := enters_of Try.func32 (by kernel_rfl) rfl
theorem ent_48 : Enters Try.prog 48 := enters_of Try.func48 (by kernel_rfl) rfl
theorem fa_24_0 : FieldAt Try.prog 24 0 0 := fieldAt_of Try.underlying24 rfl (sz := 1) (by kernel_rfl) rfl rfl
theorem ent_34 : Enters Try.prog 34 := enters_of Try.func34 (by kernel_rfl) rfl
theorem ent_47 : Enters Try.prog 47 := enters_of Try.func47 (by kernel_rfl) rfl
theorem mixed : Try.prog.follows .mixedOrders = true := by kernel_rfl
theorem ea_26 : ElemAt Try.prog 26 6 := elemAt_of Try.underlying26 (by kernel_rfl)
theorem sz_32 : (Try.prog.info? 32).map (·.size) = some 6 := by kernel_rfl
theorem z_34 : (Try.prog.info? 34).bind (fun i => i.zero.map (·.cells)) = some #[Value.string ByteArray.empty, Value.string ByteArray.empty, Value.string ByteArray.empty, Value.int .i64 0, Value.int .i64 0, Value.bool false, Value.bool false, Value.int .u8 0] := by kernel_rfl
theorem app_22 : AppT Try.prog 22 34 8 72 := appT_of Try.underlying22 (by kernel_rfl) rfl
theorem z_24 : (Try.prog.info? 24).bind (fun i => i.zero.map (·.cells)) = some #[Value.slice none 0 0] := by kernel_rfl
theorem sz_24 : (Try.prog.info? 24).map (·.size) = some 1 := by kernel_rfl
theorem sz_5 : (Try.prog.info? 5).map (·.size) = some 1 := by kernel_rfl
theorem ent_39 : Enters Try.prog 39 := enters_of Try.func39 (by kernel_rfl) rfl
theorem sz_4 : (Try.prog.info? 4).map (·.size) = some 1 := by kernel_rfl
theorem ent_13 : Enters Try.prog 13 := enters_of Try.func13 (by kernel_rfl) rfl
theorem ent_36 : Enters Try.prog 36 := enters_of Try.func36 (by kernel_rfl) rfl
theorem ent_38 : Enters Try.prog 38 := enters_of Try.func38 (by kernel_rfl) rfl
theorem ent_37 : Enters Try.prog 37 := enters_of Try.func37 (by kernel_rfl) rfl
theorem ent_45 : Enters Try.prog 45 := enters_of Try.func45 (by kernel_rfl) rfl
theorem ent_40 : Enters Try.prog 40 := enters_of Try.func40 (by kernel_rfl) rfl
theorem z_32 : (Try.prog.info? 32).bind (fun i => i.zero.map (·.cells)) = some #[Value.int .i64 0, Value.string ByteArray.empty, Value.string ByteArray.empty, Value.string ByteArray.empty, Value.int .i64 0, Value.int .i64 0] := by kernel_rfl
theorem fa_32_1 : FieldAt Try.prog 32 1 1 := fieldAt_of Try.underlying32 rfl (sz := 1) (by kernel_rfl) rfl rfl
theorem sz_9 : (Try.prog.info? 9).map (·.size) = some 1 := by kernel_rfl
theorem fa_32_2 : FieldAt Try.prog 32 2 2 := fieldAt_of Try.underlying32 rfl (sz := 1) (by kernel_rfl) rfl rfl
theorem app_26 : AppT Try.prog 26 32 6 72 := appT_of Try.underlying26 (by kernel_rfl) rfl
theorem ent_30 : Enters Try.prog 30 := enters_of Try.func30 (by kernel_rfl) rfl
theorem ent_12 : Enters Try.prog 12 := enters_of Try.func12 (by kernel_rfl) rfl
theorem fa_32_3 : FieldAt Try.prog 32 3 3 := fieldAt_of Try.underlying32 rfl (sz := 1) (by kernel_rfl) rfl rfl
theorem fa_32_4 : FieldAt Try.prog 32 4 4 := fieldAt_of Try.underlying32 rfl (sz := 1) (by kernel_rfl) rfl rfl
theorem fa_32_5 : FieldAt Try.prog 32 5 5 := fieldAt_of Try.underlying32 rfl (sz := 1) (by kernel_rfl) rfl rfl
theorem ent_19 : Enters Try.prog 19 := enters_of Try.func19 (by kernel_rfl) rfl
theorem ent_15 : Enters Try.prog 15 := enters_of Try.func15 (by kernel_rfl) rfl
theorem ent_17 : Enters Try.prog 17 := enters_of Try.func17 (by kernel_rfl) rfl
theorem ent_14 : Enters Try.prog 14 := enters_of Try.func14 (by kernel_rfl) rfl
theorem ent_24 : Enters Try.prog 24 := enters_of Try.func24 (by kernel_rfl) rfl
theorem ent_18 : Enters Try.prog 18 := enters_of Try.func18 (by kernel_rfl) rfl
theorem ent_23 : Enters Try.prog 23 := enters_of Try.func23 (by kernel_rfl) rfl
theorem ent_11 : Enters Try.prog 11 := enters_of Try.func11 (by kernel_rfl) rfl
theorem fa_32_0 : FieldAt Try.prog 32 0 0 := fieldAt_of Try.underlying32 rfl (sz := 1) (by kernel_rfl) rfl rfl
end Go.Proofs.Ytkimdlpfbojkgaa
