/- The types' facts and the functions' entries of this seat, printed by gen.py. -/
import Derived.Test.YtpmpomknnppnjaaDoorEngArr2
import Derived.Test.YtpmpomknnppnjaaDoorProg
namespace Go.Proofs.Jn
open Go Go.Proofs.Eng
noncomputable abbrev Pg : Program := Go.Proofs.Tryd.prog
instance u2 : TyU Pg 2 (.int .i64) := ⟨by kernel_rfl⟩
instance i2 : TyI Pg 2 1 8 (.int .i64 0) := ⟨by kernel_rfl⟩
instance u3 : TyU Pg 3 (.int .i64) := ⟨by kernel_rfl⟩
instance i3 : TyI Pg 3 1 8 (.int .i64 0) := ⟨by kernel_rfl⟩
instance u4 : TyU Pg 4 (.bool) := ⟨by kernel_rfl⟩
instance i4 : TyI Pg 4 1 1 (.bool false) := ⟨by kernel_rfl⟩
instance u5 : TyU Pg 5 (.int .u8) := ⟨by kernel_rfl⟩
instance i5 : TyI Pg 5 1 1 (.int .u8 0) := ⟨by kernel_rfl⟩
instance u6 : TyU Pg 6 (.int .u8) := ⟨by kernel_rfl⟩
instance i6 : TyI Pg 6 1 1 (.int .u8 0) := ⟨by kernel_rfl⟩
instance u7 : TyU Pg 7 (.struct #[{ name := "x", type := 2, offset := 0, embedded := false, tag := "", pkgPath := "runtime", byteOffset := 0 }, { name := "y", type := 3, offset := 1, embedded := false, tag := "", pkgPath := "runtime", byteOffset := 8 }, { name := "signed", type := 4, offset := 2, embedded := false, tag := "", pkgPath := "runtime", byteOffset := 16 }, { name := "code", type := 6, offset := 3, embedded := false, tag := "", pkgPath := "runtime", byteOffset := 17 }]) := ⟨by kernel_rfl⟩
instance i7 : TyI Pg 7 4 24 (.agg #[.int .i64 0, .int .i64 0, .bool false, .int .u8 0]) := ⟨by kernel_rfl⟩
instance u8 : TyU Pg 8 (.struct #[{ name := "x", type := 2, offset := 0, embedded := false, tag := "", pkgPath := "runtime", byteOffset := 0 }, { name := "y", type := 3, offset := 1, embedded := false, tag := "", pkgPath := "runtime", byteOffset := 8 }, { name := "signed", type := 4, offset := 2, embedded := false, tag := "", pkgPath := "runtime", byteOffset := 16 }, { name := "code", type := 6, offset := 3, embedded := false, tag := "", pkgPath := "runtime", byteOffset := 17 }]) := ⟨by kernel_rfl⟩
instance i8 : TyI Pg 8 4 24 (.agg #[.int .i64 0, .int .i64 0, .bool false, .int .u8 0]) := ⟨by kernel_rfl⟩
instance u9 : TyU Pg 9 (.string) := ⟨by kernel_rfl⟩
instance i9 : TyI Pg 9 1 16 (.string ByteArray.empty) := ⟨by kernel_rfl⟩
instance u10 : TyU Pg 10 (.string) := ⟨by kernel_rfl⟩
instance i10 : TyI Pg 10 1 16 (.string ByteArray.empty) := ⟨by kernel_rfl⟩
instance u11 : TyU Pg 11 (.string) := ⟨by kernel_rfl⟩
instance i11 : TyI Pg 11 1 16 (.string ByteArray.empty) := ⟨by kernel_rfl⟩
instance u12 : TyU Pg 12 (.int .u64) := ⟨by kernel_rfl⟩
instance i12 : TyI Pg 12 1 8 (.int .u64 0) := ⟨by kernel_rfl⟩
instance u13 : TyU Pg 13 (.struct #[{ name := "msg", type := 9, offset := 0, embedded := false, tag := "", pkgPath := "runtime", byteOffset := 0 }, { name := "addr", type := 12, offset := 1, embedded := false, tag := "", pkgPath := "runtime", byteOffset := 16 }]) := ⟨by kernel_rfl⟩
instance i13 : TyI Pg 13 2 24 (.agg #[.string ByteArray.empty, .int .u64 0]) := ⟨by kernel_rfl⟩
instance u14 : TyU Pg 14 (.struct #[{ name := "msg", type := 9, offset := 0, embedded := false, tag := "", pkgPath := "runtime", byteOffset := 0 }, { name := "addr", type := 12, offset := 1, embedded := false, tag := "", pkgPath := "runtime", byteOffset := 16 }]) := ⟨by kernel_rfl⟩
instance i14 : TyI Pg 14 2 24 (.agg #[.string ByteArray.empty, .int .u64 0]) := ⟨by kernel_rfl⟩
instance u15 : TyU Pg 15 (.pointer 106) := ⟨by kernel_rfl⟩
instance i15 : TyI Pg 15 1 8 (.pointer none) := ⟨by kernel_rfl⟩
instance u16 : TyU Pg 16 (.pointer 109) := ⟨by kernel_rfl⟩
instance i16 : TyI Pg 16 1 8 (.pointer none) := ⟨by kernel_rfl⟩
instance u17 : TyU Pg 17 (.pointer 117) := ⟨by kernel_rfl⟩
instance i17 : TyI Pg 17 1 8 (.pointer none) := ⟨by kernel_rfl⟩
instance u18 : TyU Pg 18 (.struct #[{ name := "typ", type := 17, offset := 0, embedded := false, tag := "", pkgPath := "internal/runtime/maps", byteOffset := 0 }]) := ⟨by kernel_rfl⟩
instance i18 : TyI Pg 18 1 8 (.agg #[.pointer none]) := ⟨by kernel_rfl⟩
instance u19 : TyU Pg 19 (.struct #[{ name := "typ", type := 17, offset := 0, embedded := false, tag := "", pkgPath := "internal/runtime/maps", byteOffset := 0 }]) := ⟨by kernel_rfl⟩
instance i19 : TyI Pg 19 1 8 (.agg #[.pointer none]) := ⟨by kernel_rfl⟩
instance u21 : TyU Pg 21 (.int .i32) := ⟨by kernel_rfl⟩
instance i21 : TyI Pg 21 1 4 (.int .i32 0) := ⟨by kernel_rfl⟩
instance u22 : TyU Pg 22 (.slice 31) := ⟨by kernel_rfl⟩
instance i22 : TyI Pg 22 1 24 (.slice none 0 0) := ⟨by kernel_rfl⟩
instance u23 : TyU Pg 23 (.pointer 53) := ⟨by kernel_rfl⟩
instance i23 : TyI Pg 23 1 8 (.pointer none) := ⟨by kernel_rfl⟩
instance u24 : TyU Pg 24 (.int .i64) := ⟨by kernel_rfl⟩
instance i24 : TyI Pg 24 1 8 (.int .i64 0) := ⟨by kernel_rfl⟩
instance u28 : TyU Pg 28 (.pointer 57) := ⟨by kernel_rfl⟩
instance i28 : TyI Pg 28 1 8 (.pointer none) := ⟨by kernel_rfl⟩
instance u31 : TyU Pg 31 (.slice 5) := ⟨by kernel_rfl⟩
instance i31 : TyI Pg 31 1 24 (.slice none 0 0) := ⟨by kernel_rfl⟩
instance u34 : TyU Pg 34 (.pointer 38) := ⟨by kernel_rfl⟩
instance i34 : TyI Pg 34 1 8 (.pointer none) := ⟨by kernel_rfl⟩
instance u35 : TyU Pg 35 (.slice 80) := ⟨by kernel_rfl⟩
instance i35 : TyI Pg 35 1 24 (.slice none 0 0) := ⟨by kernel_rfl⟩
instance u36 : TyU Pg 36 (.slice 82) := ⟨by kernel_rfl⟩
instance i36 : TyI Pg 36 1 24 (.slice none 0 0) := ⟨by kernel_rfl⟩
instance u37 : TyU Pg 37 (.struct #[{ name := "bytes", type := 22, offset := 0, embedded := false, tag := "", pkgPath := "provost/provostkeep", byteOffset := 0 }, { name := "bytesWant", type := 22, offset := 1, embedded := false, tag := "", pkgPath := "provost/provostkeep", byteOffset := 24 }, { name := "bytesOne", type := 22, offset := 2, embedded := false, tag := "", pkgPath := "provost/provostkeep", byteOffset := 48 }, { name := "bytesMany", type := 22, offset := 3, embedded := false, tag := "", pkgPath := "provost/provostkeep", byteOffset := 72 }, { name := "ints", type := 35, offset := 4, embedded := false, tag := "", pkgPath := "provost/provostkeep", byteOffset := 96 }, { name := "intsWant", type := 35, offset := 5, embedded := false, tag := "", pkgPath := "provost/provostkeep", byteOffset := 120 }, { name := "intsOne", type := 35, offset := 6, embedded := false, tag := "", pkgPath := "provost/provostkeep", byteOffset := 144 }, { name := "intsMany", type := 35, offset := 7, embedded := false, tag := "", pkgPath := "provost/provostkeep", byteOffset := 168 }, { name := "texts", type := 36, offset := 8, embedded := false, tag := "", pkgPath := "provost/provostkeep", byteOffset := 192 }, { name := "textsWant", type := 36, offset := 9, embedded := false, tag := "", pkgPath := "provost/provostkeep", byteOffset := 216 }, { name := "textsOne", type := 36, offset := 10, embedded := false, tag := "", pkgPath := "provost/provostkeep", byteOffset := 240 }, { name := "textsMany", type := 36, offset := 11, embedded := false, tag := "", pkgPath := "provost/provostkeep", byteOffset := 264 }, { name := "n", type := 3, offset := 12, embedded := false, tag := "", pkgPath := "provost/provostkeep", byteOffset := 288 }]) := ⟨by kernel_rfl⟩
instance i37 : TyI Pg 37 13 296 (.agg #[.slice none 0 0, .slice none 0 0, .slice none 0 0, .slice none 0 0, .slice none 0 0, .slice none 0 0, .slice none 0 0, .slice none 0 0, .slice none 0 0, .slice none 0 0, .slice none 0 0, .slice none 0 0, .int .i64 0]) := ⟨by kernel_rfl⟩
instance u38 : TyU Pg 38 (.struct #[{ name := "bytes", type := 22, offset := 0, embedded := false, tag := "", pkgPath := "provost/provostkeep", byteOffset := 0 }, { name := "bytesWant", type := 22, offset := 1, embedded := false, tag := "", pkgPath := "provost/provostkeep", byteOffset := 24 }, { name := "bytesOne", type := 22, offset := 2, embedded := false, tag := "", pkgPath := "provost/provostkeep", byteOffset := 48 }, { name := "bytesMany", type := 22, offset := 3, embedded := false, tag := "", pkgPath := "provost/provostkeep", byteOffset := 72 }, { name := "ints", type := 35, offset := 4, embedded := false, tag := "", pkgPath := "provost/provostkeep", byteOffset := 96 }, { name := "intsWant", type := 35, offset := 5, embedded := false, tag := "", pkgPath := "provost/provostkeep", byteOffset := 120 }, { name := "intsOne", type := 35, offset := 6, embedded := false, tag := "", pkgPath := "provost/provostkeep", byteOffset := 144 }, { name := "intsMany", type := 35, offset := 7, embedded := false, tag := "", pkgPath := "provost/provostkeep", byteOffset := 168 }, { name := "texts", type := 36, offset := 8, embedded := false, tag := "", pkgPath := "provost/provostkeep", byteOffset := 192 }, { name := "textsWant", type := 36, offset := 9, embedded := false, tag := "", pkgPath := "provost/provostkeep", byteOffset := 216 }, { name := "textsOne", type := 36, offset := 10, embedded := false, tag := "", pkgPath := "provost/provostkeep", byteOffset := 240 }, { name := "textsMany", type := 36, offset := 11, embedded := false, tag := "", pkgPath := "provost/provostkeep", byteOffset := 264 }, { name := "n", type := 3, offset := 12, embedded := false, tag := "", pkgPath := "provost/provostkeep", byteOffset := 288 }]) := ⟨by kernel_rfl⟩
instance i38 : TyI Pg 38 13 296 (.agg #[.slice none 0 0, .slice none 0 0, .slice none 0 0, .slice none 0 0, .slice none 0 0, .slice none 0 0, .slice none 0 0, .slice none 0 0, .slice none 0 0, .slice none 0 0, .slice none 0 0, .slice none 0 0, .int .i64 0]) := ⟨by kernel_rfl⟩
instance u42 : TyU Pg 42 (.slice 48) := ⟨by kernel_rfl⟩
instance i42 : TyI Pg 42 1 24 (.slice none 0 0) := ⟨by kernel_rfl⟩
instance u43 : TyU Pg 43 (.pointer 87) := ⟨by kernel_rfl⟩
instance i43 : TyI Pg 43 1 8 (.pointer none) := ⟨by kernel_rfl⟩
instance u47 : TyU Pg 47 (.struct #[{ name := "Do", type := 3, offset := 0, embedded := false, tag := "", pkgPath := "", byteOffset := 0 }, { name := "N", type := 3, offset := 1, embedded := false, tag := "", pkgPath := "", byteOffset := 8 }, { name := "Data", type := 31, offset := 2, embedded := false, tag := "", pkgPath := "", byteOffset := 16 }]) := ⟨by kernel_rfl⟩
instance i47 : TyI Pg 47 3 40 (.agg #[.int .i64 0, .int .i64 0, .slice none 0 0]) := ⟨by kernel_rfl⟩
instance u48 : TyU Pg 48 (.struct #[{ name := "Do", type := 3, offset := 0, embedded := false, tag := "", pkgPath := "", byteOffset := 0 }, { name := "N", type := 3, offset := 1, embedded := false, tag := "", pkgPath := "", byteOffset := 8 }, { name := "Data", type := 31, offset := 2, embedded := false, tag := "", pkgPath := "", byteOffset := 16 }]) := ⟨by kernel_rfl⟩
instance i48 : TyI Pg 48 3 40 (.agg #[.int .i64 0, .int .i64 0, .slice none 0 0]) := ⟨by kernel_rfl⟩
instance u52 : TyU Pg 52 (.struct #[{ name := "bytes", type := 31, offset := 0, embedded := false, tag := "", pkgPath := "provost/disk", byteOffset := 0 }, { name := "writes", type := 3, offset := 1, embedded := false, tag := "", pkgPath := "provost/disk", byteOffset := 24 }, { name := "down", type := 4, offset := 2, embedded := false, tag := "", pkgPath := "provost/disk", byteOffset := 32 }, { name := "fused", type := 4, offset := 3, embedded := false, tag := "", pkgPath := "provost/disk", byteOffset := 33 }, { name := "left", type := 3, offset := 4, embedded := false, tag := "", pkgPath := "provost/disk", byteOffset := 40 }]) := ⟨by kernel_rfl⟩
instance i52 : TyI Pg 52 5 48 (.agg #[.slice none 0 0, .int .i64 0, .bool false, .bool false, .int .i64 0]) := ⟨by kernel_rfl⟩
instance u53 : TyU Pg 53 (.struct #[{ name := "bytes", type := 31, offset := 0, embedded := false, tag := "", pkgPath := "provost/disk", byteOffset := 0 }, { name := "writes", type := 3, offset := 1, embedded := false, tag := "", pkgPath := "provost/disk", byteOffset := 24 }, { name := "down", type := 4, offset := 2, embedded := false, tag := "", pkgPath := "provost/disk", byteOffset := 32 }, { name := "fused", type := 4, offset := 3, embedded := false, tag := "", pkgPath := "provost/disk", byteOffset := 33 }, { name := "left", type := 3, offset := 4, embedded := false, tag := "", pkgPath := "provost/disk", byteOffset := 40 }]) := ⟨by kernel_rfl⟩
instance i53 : TyI Pg 53 5 48 (.agg #[.slice none 0 0, .int .i64 0, .bool false, .bool false, .int .i64 0]) := ⟨by kernel_rfl⟩
instance u55 : TyU Pg 55 (.int .u32) := ⟨by kernel_rfl⟩
instance i55 : TyI Pg 55 1 4 (.int .u32 0) := ⟨by kernel_rfl⟩
instance u56 : TyU Pg 56 (.struct #[{ name := "disk", type := 23, offset := 0, embedded := false, tag := "", pkgPath := "provost/journal", byteOffset := 0 }, { name := "boots", type := 55, offset := 1, embedded := false, tag := "", pkgPath := "provost/journal", byteOffset := 8 }, { name := "len", type := 3, offset := 2, embedded := false, tag := "", pkgPath := "provost/journal", byteOffset := 16 }, { name := "end", type := 3, offset := 3, embedded := false, tag := "", pkgPath := "provost/journal", byteOffset := 24 }, { name := "down", type := 4, offset := 4, embedded := false, tag := "", pkgPath := "provost/journal", byteOffset := 32 }]) := ⟨by kernel_rfl⟩
instance i56 : TyI Pg 56 5 40 (.agg #[.pointer none, .int .u32 0, .int .i64 0, .int .i64 0, .bool false]) := ⟨by kernel_rfl⟩
instance u57 : TyU Pg 57 (.struct #[{ name := "disk", type := 23, offset := 0, embedded := false, tag := "", pkgPath := "provost/journal", byteOffset := 0 }, { name := "boots", type := 55, offset := 1, embedded := false, tag := "", pkgPath := "provost/journal", byteOffset := 8 }, { name := "len", type := 3, offset := 2, embedded := false, tag := "", pkgPath := "provost/journal", byteOffset := 16 }, { name := "end", type := 3, offset := 3, embedded := false, tag := "", pkgPath := "provost/journal", byteOffset := 24 }, { name := "down", type := 4, offset := 4, embedded := false, tag := "", pkgPath := "provost/journal", byteOffset := 32 }]) := ⟨by kernel_rfl⟩
instance i57 : TyI Pg 57 5 40 (.agg #[.pointer none, .int .u32 0, .int .i64 0, .int .i64 0, .bool false]) := ⟨by kernel_rfl⟩
instance u58 : TyU Pg 58 (.array 16 5) := ⟨by kernel_rfl⟩
instance i58 : TyI Pg 58 16 16 (.agg #[.int .u8 0, .int .u8 0, .int .u8 0, .int .u8 0, .int .u8 0, .int .u8 0, .int .u8 0, .int .u8 0, .int .u8 0, .int .u8 0, .int .u8 0, .int .u8 0, .int .u8 0, .int .u8 0, .int .u8 0, .int .u8 0]) := ⟨by kernel_rfl⟩
instance u59 : TyU Pg 59 (.array 16 5) := ⟨by kernel_rfl⟩
instance i59 : TyI Pg 59 16 16 (.agg #[.int .u8 0, .int .u8 0, .int .u8 0, .int .u8 0, .int .u8 0, .int .u8 0, .int .u8 0, .int .u8 0, .int .u8 0, .int .u8 0, .int .u8 0, .int .u8 0, .int .u8 0, .int .u8 0, .int .u8 0, .int .u8 0]) := ⟨by kernel_rfl⟩
instance u61 : TyU Pg 61 (.int .u64) := ⟨by kernel_rfl⟩
instance i61 : TyI Pg 61 1 8 (.int .u64 0) := ⟨by kernel_rfl⟩
instance u68 : TyU Pg 68 (.slice 59) := ⟨by kernel_rfl⟩
instance i68 : TyI Pg 68 1 24 (.slice none 0 0) := ⟨by kernel_rfl⟩
instance u76 : TyU Pg 76 (.int .u64) := ⟨by kernel_rfl⟩
instance i76 : TyI Pg 76 1 8 (.int .u64 0) := ⟨by kernel_rfl⟩
instance u80 : TyU Pg 80 (.slice 3) := ⟨by kernel_rfl⟩
instance i80 : TyI Pg 80 1 24 (.slice none 0 0) := ⟨by kernel_rfl⟩
instance u82 : TyU Pg 82 (.slice 9) := ⟨by kernel_rfl⟩
instance i82 : TyI Pg 82 1 24 (.slice none 0 0) := ⟨by kernel_rfl⟩
instance u86 : TyU Pg 86 (.struct #[{ name := "B", type := 31, offset := 0, embedded := false, tag := "", pkgPath := "", byteOffset := 0 }, { name := "Count", type := 3, offset := 1, embedded := false, tag := "", pkgPath := "", byteOffset := 24 }, { name := "Left", type := 3, offset := 2, embedded := false, tag := "", pkgPath := "", byteOffset := 32 }]) := ⟨by kernel_rfl⟩
instance i86 : TyI Pg 86 3 40 (.agg #[.slice none 0 0, .int .i64 0, .int .i64 0]) := ⟨by kernel_rfl⟩
instance u87 : TyU Pg 87 (.struct #[{ name := "B", type := 31, offset := 0, embedded := false, tag := "", pkgPath := "", byteOffset := 0 }, { name := "Count", type := 3, offset := 1, embedded := false, tag := "", pkgPath := "", byteOffset := 24 }, { name := "Left", type := 3, offset := 2, embedded := false, tag := "", pkgPath := "", byteOffset := 32 }]) := ⟨by kernel_rfl⟩
instance i87 : TyI Pg 87 3 40 (.agg #[.slice none 0 0, .int .i64 0, .int .i64 0]) := ⟨by kernel_rfl⟩
instance u88 : TyU Pg 88 (.pointer 59) := ⟨by kernel_rfl⟩
instance i88 : TyI Pg 88 1 8 (.pointer none) := ⟨by kernel_rfl⟩
instance u90 : TyU Pg 90 (.array 256 4) := ⟨by kernel_rfl⟩
instance i90 : TyI Pg 90 256 256 (.agg #[.bool false, .bool false, .bool false, .bool false, .bool false, .bool false, .bool false, .bool false, .bool false, .bool false, .bool false, .bool false, .bool false, .bool false, .bool false, .bool false, .bool false, .bool false, .bool false, .bool false, .bool false, .bool false, .bool false, .bool false, .bool false, .bool false, .bool false, .bool false, .bool false, .bool false, .bool false, .bool false, .bool false, .bool false, .bool false, .bool false, .bool false, .bool false, .bool false, .bool false, .bool false, .bool false, .bool false, .bool false, .bool false, .bool false, .bool false, .bool false, .bool false, .bool false, .bool false, .bool false, .bool false, .bool false, .bool false, .bool false, .bool false, .bool false, .bool false, .bool false, .bool false, .bool false, .bool false, .bool false, .bool false, .bool false, .bool false, .bool false, .bool false, .bool false, .bool false, .bool false, .bool false, .bool false, .bool false, .bool false, .bool false, .bool false, .bool false, .bool false, .bool false, .bool false, .bool false, .bool false, .bool false, .bool false, .bool false, .bool false, .bool false, .bool false, .bool false, .bool false, .bool false, .bool false, .bool false, .bool false, .bool false, .bool false, .bool false, .bool false, .bool false, .bool false, .bool false, .bool false, .bool false, .bool false, .bool false, .bool false, .bool false, .bool false, .bool false, .bool false, .bool false, .bool false, .bool false, .bool false, .bool false, .bool false, .bool false, .bool false, .bool false, .bool false, .bool false, .bool false, .bool false, .bool false, .bool false, .bool false, .bool false, .bool false, .bool false, .bool false, .bool false, .bool false, .bool false, .bool false, .bool false, .bool false, .bool false, .bool false, .bool false, .bool false, .bool false, .bool false, .bool false, .bool false, .bool false, .bool false, .bool false, .bool false, .bool false, .bool false, .bool false, .bool false, .bool false, .bool false, .bool false, .bool false, .bool false, .bool false, .bool false, .bool false, .bool false, .bool false, .bool false, .bool false, .bool false, .bool false, .bool false, .bool false, .bool false, .bool false, .bool false, .bool false, .bool false, .bool false, .bool false, .bool false, .bool false, .bool false, .bool false, .bool false, .bool false, .bool false, .bool false, .bool false, .bool false, .bool false, .bool false, .bool false, .bool false, .bool false, .bool false, .bool false, .bool false, .bool false, .bool false, .bool false, .bool false, .bool false, .bool false, .bool false, .bool false, .bool false, .bool false, .bool false, .bool false, .bool false, .bool false, .bool false, .bool false, .bool false, .bool false, .bool false, .bool false, .bool false, .bool false, .bool false, .bool false, .bool false, .bool false, .bool false, .bool false, .bool false, .bool false, .bool false, .bool false, .bool false, .bool false, .bool false, .bool false, .bool false, .bool false, .bool false, .bool false, .bool false, .bool false, .bool false, .bool false, .bool false, .bool false, .bool false, .bool false, .bool false, .bool false, .bool false, .bool false, .bool false, .bool false, .bool false, .bool false, .bool false, .bool false, .bool false, .bool false, .bool false]) := ⟨by kernel_rfl⟩
instance u91 : TyU Pg 91 (.array 256 4) := ⟨by kernel_rfl⟩
instance i91 : TyI Pg 91 256 256 (.agg #[.bool false, .bool false, .bool false, .bool false, .bool false, .bool false, .bool false, .bool false, .bool false, .bool false, .bool false, .bool false, .bool false, .bool false, .bool false, .bool false, .bool false, .bool false, .bool false, .bool false, .bool false, .bool false, .bool false, .bool false, .bool false, .bool false, .bool false, .bool false, .bool false, .bool false, .bool false, .bool false, .bool false, .bool false, .bool false, .bool false, .bool false, .bool false, .bool false, .bool false, .bool false, .bool false, .bool false, .bool false, .bool false, .bool false, .bool false, .bool false, .bool false, .bool false, .bool false, .bool false, .bool false, .bool false, .bool false, .bool false, .bool false, .bool false, .bool false, .bool false, .bool false, .bool false, .bool false, .bool false, .bool false, .bool false, .bool false, .bool false, .bool false, .bool false, .bool false, .bool false, .bool false, .bool false, .bool false, .bool false, .bool false, .bool false, .bool false, .bool false, .bool false, .bool false, .bool false, .bool false, .bool false, .bool false, .bool false, .bool false, .bool false, .bool false, .bool false, .bool false, .bool false, .bool false, .bool false, .bool false, .bool false, .bool false, .bool false, .bool false, .bool false, .bool false, .bool false, .bool false, .bool false, .bool false, .bool false, .bool false, .bool false, .bool false, .bool false, .bool false, .bool false, .bool false, .bool false, .bool false, .bool false, .bool false, .bool false, .bool false, .bool false, .bool false, .bool false, .bool false, .bool false, .bool false, .bool false, .bool false, .bool false, .bool false, .bool false, .bool false, .bool false, .bool false, .bool false, .bool false, .bool false, .bool false, .bool false, .bool false, .bool false, .bool false, .bool false, .bool false, .bool false, .bool false, .bool false, .bool false, .bool false, .bool false, .bool false, .bool false, .bool false, .bool false, .bool false, .bool false, .bool false, .bool false, .bool false, .bool false, .bool false, .bool false, .bool false, .bool false, .bool false, .bool false, .bool false, .bool false, .bool false, .bool false, .bool false, .bool false, .bool false, .bool false, .bool false, .bool false, .bool false, .bool false, .bool false, .bool false, .bool false, .bool false, .bool false, .bool false, .bool false, .bool false, .bool false, .bool false, .bool false, .bool false, .bool false, .bool false, .bool false, .bool false, .bool false, .bool false, .bool false, .bool false, .bool false, .bool false, .bool false, .bool false, .bool false, .bool false, .bool false, .bool false, .bool false, .bool false, .bool false, .bool false, .bool false, .bool false, .bool false, .bool false, .bool false, .bool false, .bool false, .bool false, .bool false, .bool false, .bool false, .bool false, .bool false, .bool false, .bool false, .bool false, .bool false, .bool false, .bool false, .bool false, .bool false, .bool false, .bool false, .bool false, .bool false, .bool false, .bool false, .bool false, .bool false, .bool false, .bool false, .bool false, .bool false, .bool false, .bool false, .bool false, .bool false, .bool false, .bool false, .bool false, .bool false, .bool false, .bool false, .bool false, .bool false, .bool false]) := ⟨by kernel_rfl⟩
instance u95 : TyU Pg 95 (.pointer 91) := ⟨by kernel_rfl⟩
instance i95 : TyI Pg 95 1 8 (.pointer none) := ⟨by kernel_rfl⟩
instance u100 : TyU Pg 100 (.array 256 5) := ⟨by kernel_rfl⟩
instance i100 : TyI Pg 100 256 256 (.agg #[.int .u8 0, .int .u8 0, .int .u8 0, .int .u8 0, .int .u8 0, .int .u8 0, .int .u8 0, .int .u8 0, .int .u8 0, .int .u8 0, .int .u8 0, .int .u8 0, .int .u8 0, .int .u8 0, .int .u8 0, .int .u8 0, .int .u8 0, .int .u8 0, .int .u8 0, .int .u8 0, .int .u8 0, .int .u8 0, .int .u8 0, .int .u8 0, .int .u8 0, .int .u8 0, .int .u8 0, .int .u8 0, .int .u8 0, .int .u8 0, .int .u8 0, .int .u8 0, .int .u8 0, .int .u8 0, .int .u8 0, .int .u8 0, .int .u8 0, .int .u8 0, .int .u8 0, .int .u8 0, .int .u8 0, .int .u8 0, .int .u8 0, .int .u8 0, .int .u8 0, .int .u8 0, .int .u8 0, .int .u8 0, .int .u8 0, .int .u8 0, .int .u8 0, .int .u8 0, .int .u8 0, .int .u8 0, .int .u8 0, .int .u8 0, .int .u8 0, .int .u8 0, .int .u8 0, .int .u8 0, .int .u8 0, .int .u8 0, .int .u8 0, .int .u8 0, .int .u8 0, .int .u8 0, .int .u8 0, .int .u8 0, .int .u8 0, .int .u8 0, .int .u8 0, .int .u8 0, .int .u8 0, .int .u8 0, .int .u8 0, .int .u8 0, .int .u8 0, .int .u8 0, .int .u8 0, .int .u8 0, .int .u8 0, .int .u8 0, .int .u8 0, .int .u8 0, .int .u8 0, .int .u8 0, .int .u8 0, .int .u8 0, .int .u8 0, .int .u8 0, .int .u8 0, .int .u8 0, .int .u8 0, .int .u8 0, .int .u8 0, .int .u8 0, .int .u8 0, .int .u8 0, .int .u8 0, .int .u8 0, .int .u8 0, .int .u8 0, .int .u8 0, .int .u8 0, .int .u8 0, .int .u8 0, .int .u8 0, .int .u8 0, .int .u8 0, .int .u8 0, .int .u8 0, .int .u8 0, .int .u8 0, .int .u8 0, .int .u8 0, .int .u8 0, .int .u8 0, .int .u8 0, .int .u8 0, .int .u8 0, .int .u8 0, .int .u8 0, .int .u8 0, .int .u8 0, .int .u8 0, .int .u8 0, .int .u8 0, .int .u8 0, .int .u8 0, .int .u8 0, .int .u8 0, .int .u8 0, .int .u8 0, .int .u8 0, .int .u8 0, .int .u8 0, .int .u8 0, .int .u8 0, .int .u8 0, .int .u8 0, .int .u8 0, .int .u8 0, .int .u8 0, .int .u8 0, .int .u8 0, .int .u8 0, .int .u8 0, .int .u8 0, .int .u8 0, .int .u8 0, .int .u8 0, .int .u8 0, .int .u8 0, .int .u8 0, .int .u8 0, .int .u8 0, .int .u8 0, .int .u8 0, .int .u8 0, .int .u8 0, .int .u8 0, .int .u8 0, .int .u8 0, .int .u8 0, .int .u8 0, .int .u8 0, .int .u8 0, .int .u8 0, .int .u8 0, .int .u8 0, .int .u8 0, .int .u8 0, .int .u8 0, .int .u8 0, .int .u8 0, .int .u8 0, .int .u8 0, .int .u8 0, .int .u8 0, .int .u8 0, .int .u8 0, .int .u8 0, .int .u8 0, .int .u8 0, .int .u8 0, .int .u8 0, .int .u8 0, .int .u8 0, .int .u8 0, .int .u8 0, .int .u8 0, .int .u8 0, .int .u8 0, .int .u8 0, .int .u8 0, .int .u8 0, .int .u8 0, .int .u8 0, .int .u8 0, .int .u8 0, .int .u8 0, .int .u8 0, .int .u8 0, .int .u8 0, .int .u8 0, .int .u8 0, .int .u8 0, .int .u8 0, .int .u8 0, .int .u8 0, .int .u8 0, .int .u8 0, .int .u8 0, .int .u8 0, .int .u8 0, .int .u8 0, .int .u8 0, .int .u8 0, .int .u8 0, .int .u8 0, .int .u8 0, .int .u8 0, .int .u8 0, .int .u8 0, .int .u8 0, .int .u8 0, .int .u8 0, .int .u8 0, .int .u8 0, .int .u8 0, .int .u8 0, .int .u8 0, .int .u8 0, .int .u8 0, .int .u8 0, .int .u8 0, .int .u8 0, .int .u8 0, .int .u8 0, .int .u8 0, .int .u8 0, .int .u8 0, .int .u8 0, .int .u8 0, .int .u8 0, .int .u8 0, .int .u8 0, .int .u8 0, .int .u8 0, .int .u8 0, .int .u8 0, .int .u8 0, .int .u8 0, .int .u8 0, .int .u8 0, .int .u8 0]) := ⟨by kernel_rfl⟩
instance u101 : TyU Pg 101 (.struct #[{ name := "lo", type := 5, offset := 0, embedded := false, tag := "", pkgPath := "unicode/utf8", byteOffset := 0 }, { name := "hi", type := 5, offset := 1, embedded := false, tag := "", pkgPath := "unicode/utf8", byteOffset := 1 }]) := ⟨by kernel_rfl⟩
instance i101 : TyI Pg 101 2 2 (.agg #[.int .u8 0, .int .u8 0]) := ⟨by kernel_rfl⟩
instance u102 : TyU Pg 102 (.struct #[{ name := "lo", type := 5, offset := 0, embedded := false, tag := "", pkgPath := "unicode/utf8", byteOffset := 0 }, { name := "hi", type := 5, offset := 1, embedded := false, tag := "", pkgPath := "unicode/utf8", byteOffset := 1 }]) := ⟨by kernel_rfl⟩
instance i102 : TyI Pg 102 2 2 (.agg #[.int .u8 0, .int .u8 0]) := ⟨by kernel_rfl⟩
instance u103 : TyU Pg 103 (.array 16 102) := ⟨by kernel_rfl⟩
instance i103 : TyI Pg 103 32 32 (.agg #[.int .u8 0, .int .u8 0, .int .u8 0, .int .u8 0, .int .u8 0, .int .u8 0, .int .u8 0, .int .u8 0, .int .u8 0, .int .u8 0, .int .u8 0, .int .u8 0, .int .u8 0, .int .u8 0, .int .u8 0, .int .u8 0, .int .u8 0, .int .u8 0, .int .u8 0, .int .u8 0, .int .u8 0, .int .u8 0, .int .u8 0, .int .u8 0, .int .u8 0, .int .u8 0, .int .u8 0, .int .u8 0, .int .u8 0, .int .u8 0, .int .u8 0, .int .u8 0]) := ⟨by kernel_rfl⟩
instance u105 : TyU Pg 105 (.struct #[{ name := "_interface", type := 17, offset := 0, embedded := false, tag := "", pkgPath := "runtime", byteOffset := 0 }, { name := "concrete", type := 17, offset := 1, embedded := false, tag := "", pkgPath := "runtime", byteOffset := 8 }, { name := "asserted", type := 17, offset := 2, embedded := false, tag := "", pkgPath := "runtime", byteOffset := 16 }, { name := "missingMethod", type := 9, offset := 3, embedded := false, tag := "", pkgPath := "runtime", byteOffset := 24 }]) := ⟨by kernel_rfl⟩
instance i105 : TyI Pg 105 4 40 (.agg #[.pointer none, .pointer none, .pointer none, .string ByteArray.empty]) := ⟨by kernel_rfl⟩
instance u106 : TyU Pg 106 (.struct #[{ name := "_interface", type := 17, offset := 0, embedded := false, tag := "", pkgPath := "runtime", byteOffset := 0 }, { name := "concrete", type := 17, offset := 1, embedded := false, tag := "", pkgPath := "runtime", byteOffset := 8 }, { name := "asserted", type := 17, offset := 2, embedded := false, tag := "", pkgPath := "runtime", byteOffset := 16 }, { name := "missingMethod", type := 9, offset := 3, embedded := false, tag := "", pkgPath := "runtime", byteOffset := 24 }]) := ⟨by kernel_rfl⟩
instance i106 : TyI Pg 106 4 40 (.agg #[.pointer none, .pointer none, .pointer none, .string ByteArray.empty]) := ⟨by kernel_rfl⟩
instance u107 : TyU Pg 107 (.array 0 16) := ⟨by kernel_rfl⟩
instance i107 : TyI Pg 107 0 0 (.agg #[]) := ⟨by kernel_rfl⟩
instance u108 : TyU Pg 108 (.struct #[{ name := "_", type := 107, offset := 0, embedded := false, tag := "", pkgPath := "runtime", byteOffset := 0 }]) := ⟨by kernel_rfl⟩
instance i108 : TyI Pg 108 0 0 (.agg #[]) := ⟨by kernel_rfl⟩
instance u109 : TyU Pg 109 (.struct #[{ name := "_", type := 107, offset := 0, embedded := false, tag := "", pkgPath := "runtime", byteOffset := 0 }]) := ⟨by kernel_rfl⟩
instance i109 : TyI Pg 109 0 0 (.agg #[]) := ⟨by kernel_rfl⟩
instance u110 : TyU Pg 110 (.int .u8) := ⟨by kernel_rfl⟩
instance i110 : TyI Pg 110 1 1 (.int .u8 0) := ⟨by kernel_rfl⟩
instance u111 : TyU Pg 111 (.int .u8) := ⟨by kernel_rfl⟩
instance i111 : TyI Pg 111 1 1 (.int .u8 0) := ⟨by kernel_rfl⟩
instance u113 : TyU Pg 113 (.pointer 5) := ⟨by kernel_rfl⟩
instance i113 : TyI Pg 113 1 8 (.pointer none) := ⟨by kernel_rfl⟩
instance u114 : TyU Pg 114 (.int .i32) := ⟨by kernel_rfl⟩
instance i114 : TyI Pg 114 1 4 (.int .i32 0) := ⟨by kernel_rfl⟩
instance u115 : TyU Pg 115 (.int .i32) := ⟨by kernel_rfl⟩
instance i115 : TyI Pg 115 1 4 (.int .i32 0) := ⟨by kernel_rfl⟩
instance u116 : TyU Pg 116 (.struct #[{ name := "Size_", type := 12, offset := 0, embedded := false, tag := "", pkgPath := "", byteOffset := 0 }, { name := "PtrBytes", type := 12, offset := 1, embedded := false, tag := "", pkgPath := "", byteOffset := 8 }, { name := "Hash", type := 55, offset := 2, embedded := false, tag := "", pkgPath := "", byteOffset := 16 }, { name := "TFlag", type := 110, offset := 3, embedded := false, tag := "", pkgPath := "", byteOffset := 20 }, { name := "Align_", type := 5, offset := 4, embedded := false, tag := "", pkgPath := "", byteOffset := 21 }, { name := "FieldAlign_", type := 5, offset := 5, embedded := false, tag := "", pkgPath := "", byteOffset := 22 }, { name := "Kind_", type := 111, offset := 6, embedded := false, tag := "", pkgPath := "", byteOffset := 23 }, { name := "Equal", type := 112, offset := 7, embedded := false, tag := "", pkgPath := "", byteOffset := 24 }, { name := "GCData", type := 113, offset := 8, embedded := false, tag := "", pkgPath := "", byteOffset := 32 }, { name := "Str", type := 114, offset := 9, embedded := false, tag := "", pkgPath := "", byteOffset := 40 }, { name := "PtrToThis", type := 115, offset := 10, embedded := false, tag := "", pkgPath := "", byteOffset := 44 }]) := ⟨by kernel_rfl⟩
instance i116 : TyI Pg 116 11 48 (.agg #[.int .u64 0, .int .u64 0, .int .u32 0, .int .u8 0, .int .u8 0, .int .u8 0, .int .u8 0, .nilFunc, .pointer none, .int .i32 0, .int .i32 0]) := ⟨by kernel_rfl⟩
instance u117 : TyU Pg 117 (.struct #[{ name := "Size_", type := 12, offset := 0, embedded := false, tag := "", pkgPath := "", byteOffset := 0 }, { name := "PtrBytes", type := 12, offset := 1, embedded := false, tag := "", pkgPath := "", byteOffset := 8 }, { name := "Hash", type := 55, offset := 2, embedded := false, tag := "", pkgPath := "", byteOffset := 16 }, { name := "TFlag", type := 110, offset := 3, embedded := false, tag := "", pkgPath := "", byteOffset := 20 }, { name := "Align_", type := 5, offset := 4, embedded := false, tag := "", pkgPath := "", byteOffset := 21 }, { name := "FieldAlign_", type := 5, offset := 5, embedded := false, tag := "", pkgPath := "", byteOffset := 22 }, { name := "Kind_", type := 111, offset := 6, embedded := false, tag := "", pkgPath := "", byteOffset := 23 }, { name := "Equal", type := 112, offset := 7, embedded := false, tag := "", pkgPath := "", byteOffset := 24 }, { name := "GCData", type := 113, offset := 8, embedded := false, tag := "", pkgPath := "", byteOffset := 32 }, { name := "Str", type := 114, offset := 9, embedded := false, tag := "", pkgPath := "", byteOffset := 40 }, { name := "PtrToThis", type := 115, offset := 10, embedded := false, tag := "", pkgPath := "", byteOffset := 44 }]) := ⟨by kernel_rfl⟩
instance i117 : TyI Pg 117 11 48 (.agg #[.int .u64 0, .int .u64 0, .int .u32 0, .int .u8 0, .int .u8 0, .int .u8 0, .int .u8 0, .nilFunc, .pointer none, .int .i32 0, .int .i32 0]) := ⟨by kernel_rfl⟩
theorem mixed : Pg.follows .mixedOrders = true := by kernel_rfl
instance n7 : NoGuard Pg 7 := ⟨by kernel_rfl⟩
instance p7 : Places Pg 7 [(0, 1), (1, 1), (2, 1), (3, 1)] := ⟨_, u7.u, by kernel_rfl⟩
instance n8 : NoGuard Pg 8 := ⟨by kernel_rfl⟩
instance p8 : Places Pg 8 [(0, 1), (1, 1), (2, 1), (3, 1)] := ⟨_, u8.u, by kernel_rfl⟩
instance n13 : NoGuard Pg 13 := ⟨by kernel_rfl⟩
instance p13 : Places Pg 13 [(0, 1), (1, 1)] := ⟨_, u13.u, by kernel_rfl⟩
instance n14 : NoGuard Pg 14 := ⟨by kernel_rfl⟩
instance p14 : Places Pg 14 [(0, 1), (1, 1)] := ⟨_, u14.u, by kernel_rfl⟩
instance n18 : NoGuard Pg 18 := ⟨by kernel_rfl⟩
instance p18 : Places Pg 18 [(0, 1)] := ⟨_, u18.u, by kernel_rfl⟩
instance n19 : NoGuard Pg 19 := ⟨by kernel_rfl⟩
instance p19 : Places Pg 19 [(0, 1)] := ⟨_, u19.u, by kernel_rfl⟩
instance n37 : NoGuard Pg 37 := ⟨by kernel_rfl⟩
instance p37 : Places Pg 37 [(0, 1), (1, 1), (2, 1), (3, 1), (4, 1), (5, 1), (6, 1), (7, 1), (8, 1), (9, 1), (10, 1), (11, 1), (12, 1)] := ⟨_, u37.u, by kernel_rfl⟩
instance n38 : NoGuard Pg 38 := ⟨by kernel_rfl⟩
instance p38 : Places Pg 38 [(0, 1), (1, 1), (2, 1), (3, 1), (4, 1), (5, 1), (6, 1), (7, 1), (8, 1), (9, 1), (10, 1), (11, 1), (12, 1)] := ⟨_, u38.u, by kernel_rfl⟩
instance n47 : NoGuard Pg 47 := ⟨by kernel_rfl⟩
instance p47 : Places Pg 47 [(0, 1), (1, 1), (2, 1)] := ⟨_, u47.u, by kernel_rfl⟩
instance n48 : NoGuard Pg 48 := ⟨by kernel_rfl⟩
instance p48 : Places Pg 48 [(0, 1), (1, 1), (2, 1)] := ⟨_, u48.u, by kernel_rfl⟩
instance n52 : NoGuard Pg 52 := ⟨by kernel_rfl⟩
instance p52 : Places Pg 52 [(0, 1), (1, 1), (2, 1), (3, 1), (4, 1)] := ⟨_, u52.u, by kernel_rfl⟩
instance n53 : NoGuard Pg 53 := ⟨by kernel_rfl⟩
instance p53 : Places Pg 53 [(0, 1), (1, 1), (2, 1), (3, 1), (4, 1)] := ⟨_, u53.u, by kernel_rfl⟩
instance n56 : NoGuard Pg 56 := ⟨by kernel_rfl⟩
instance p56 : Places Pg 56 [(0, 1), (1, 1), (2, 1), (3, 1), (4, 1)] := ⟨_, u56.u, by kernel_rfl⟩
instance n57 : NoGuard Pg 57 := ⟨by kernel_rfl⟩
instance p57 : Places Pg 57 [(0, 1), (1, 1), (2, 1), (3, 1), (4, 1)] := ⟨_, u57.u, by kernel_rfl⟩
instance n58 : NoGuard Pg 58 := ⟨by kernel_rfl⟩
instance n59 : NoGuard Pg 59 := ⟨by kernel_rfl⟩
instance n86 : NoGuard Pg 86 := ⟨by kernel_rfl⟩
instance p86 : Places Pg 86 [(0, 1), (1, 1), (2, 1)] := ⟨_, u86.u, by kernel_rfl⟩
instance n87 : NoGuard Pg 87 := ⟨by kernel_rfl⟩
instance p87 : Places Pg 87 [(0, 1), (1, 1), (2, 1)] := ⟨_, u87.u, by kernel_rfl⟩
instance n90 : NoGuard Pg 90 := ⟨by kernel_rfl⟩
instance n91 : NoGuard Pg 91 := ⟨by kernel_rfl⟩
instance n100 : NoGuard Pg 100 := ⟨by kernel_rfl⟩
instance n101 : NoGuard Pg 101 := ⟨by kernel_rfl⟩
instance p101 : Places Pg 101 [(0, 1), (1, 1)] := ⟨_, u101.u, by kernel_rfl⟩
instance n102 : NoGuard Pg 102 := ⟨by kernel_rfl⟩
instance p102 : Places Pg 102 [(0, 1), (1, 1)] := ⟨_, u102.u, by kernel_rfl⟩
instance n103 : NoGuard Pg 103 := ⟨by kernel_rfl⟩
instance n105 : NoGuard Pg 105 := ⟨by kernel_rfl⟩
instance p105 : Places Pg 105 [(0, 1), (1, 1), (2, 1), (3, 1)] := ⟨_, u105.u, by kernel_rfl⟩
instance n106 : NoGuard Pg 106 := ⟨by kernel_rfl⟩
instance p106 : Places Pg 106 [(0, 1), (1, 1), (2, 1), (3, 1)] := ⟨_, u106.u, by kernel_rfl⟩
instance n107 : NoGuard Pg 107 := ⟨by kernel_rfl⟩
instance n108 : NoGuard Pg 108 := ⟨by kernel_rfl⟩
instance p108 : Places Pg 108 [(0, 0)] := ⟨_, u108.u, by kernel_rfl⟩
instance n109 : NoGuard Pg 109 := ⟨by kernel_rfl⟩
instance p109 : Places Pg 109 [(0, 0)] := ⟨_, u109.u, by kernel_rfl⟩
instance n116 : NoGuard Pg 116 := ⟨by kernel_rfl⟩
instance p116 : Places Pg 116 [(0, 1), (1, 1), (2, 1), (3, 1), (4, 1), (5, 1), (6, 1), (7, 1), (8, 1), (9, 1), (10, 1)] := ⟨_, u116.u, by kernel_rfl⟩
instance n117 : NoGuard Pg 117 := ⟨by kernel_rfl⟩
instance p117 : Places Pg 117 [(0, 1), (1, 1), (2, 1), (3, 1), (4, 1), (5, 1), (6, 1), (7, 1), (8, 1), (9, 1), (10, 1)] := ⟨_, u117.u, by kernel_rfl⟩
instance e3 : Fun Pg 3 := Fun.of Go.Proofs.Tryd.func3 (by decide) rfl
instance e4 : Fun Pg 4 := Fun.of Go.Proofs.Tryd.func4 (by decide) rfl
instance e5 : Fun Pg 5 := Fun.of Go.Proofs.Tryd.func5 (by decide) rfl
instance e6 : Fun Pg 6 := Fun.of Go.Proofs.Tryd.func6 (by decide) rfl
instance e7 : Fun Pg 7 := Fun.of Go.Proofs.Tryd.func7 (by decide) rfl
instance e8 : Fun Pg 8 := Fun.of Go.Proofs.Tryd.func8 (by decide) rfl
instance e9 : Fun Pg 9 := Fun.of Go.Proofs.Tryd.func9 (by decide) rfl
instance e10 : Fun Pg 10 := Fun.of Go.Proofs.Tryd.func10 (by decide) rfl
instance e11 : Fun Pg 11 := Fun.of Go.Proofs.Tryd.func11 (by decide) rfl
instance e12 : Fun Pg 12 := Fun.of Go.Proofs.Tryd.func12 (by decide) rfl
instance e13 : Fun Pg 13 := Fun.of Go.Proofs.Tryd.func13 (by decide) rfl
instance e14 : Fun Pg 14 := Fun.of Go.Proofs.Tryd.func14 (by decide) rfl
instance e15 : Fun Pg 15 := Fun.of Go.Proofs.Tryd.func15 (by decide) rfl
instance e16 : Fun Pg 16 := Fun.of Go.Proofs.Tryd.func16 (by decide) rfl
instance e17 : Fun Pg 17 := Fun.of Go.Proofs.Tryd.func17 (by decide) rfl
instance e18 : Fun Pg 18 := Fun.of Go.Proofs.Tryd.func18 (by decide) rfl
instance e19 : Fun Pg 19 := Fun.of Go.Proofs.Tryd.func19 (by decide) rfl
instance e20 : Fun Pg 20 := Fun.of Go.Proofs.Tryd.func20 (by decide) rfl
instance e21 : Fun Pg 21 := Fun.of Go.Proofs.Tryd.func21 (by decide) rfl
instance e22 : Fun Pg 22 := Fun.of Go.Proofs.Tryd.func22 (by decide) rfl
instance e23 : Fun Pg 23 := Fun.of Go.Proofs.Tryd.func23 (by decide) rfl
instance e24 : Fun Pg 24 := Fun.of Go.Proofs.Tryd.func24 (by decide) rfl
instance e25 : Fun Pg 25 := Fun.of Go.Proofs.Tryd.func25 (by decide) rfl
instance e26 : Fun Pg 26 := Fun.of Go.Proofs.Tryd.func26 (by decide) rfl
instance e27 : Fun Pg 27 := Fun.of Go.Proofs.Tryd.func27 (by decide) rfl
instance e28 : Fun Pg 28 := Fun.of Go.Proofs.Tryd.func28 (by decide) rfl
instance e29 : Fun Pg 29 := Fun.of Go.Proofs.Tryd.func29 (by decide) rfl
instance e30 : Fun Pg 30 := Fun.of Go.Proofs.Tryd.func30 (by decide) rfl
instance e31 : Fun Pg 31 := Fun.of Go.Proofs.Tryd.func31 (by decide) rfl
instance e32 : Fun Pg 32 := Fun.of Go.Proofs.Tryd.func32 (by decide) rfl
instance e33 : Fun Pg 33 := Fun.of Go.Proofs.Tryd.func33 (by decide) rfl
instance e34 : Fun Pg 34 := Fun.of Go.Proofs.Tryd.func34 (by decide) rfl
instance e35 : Fun Pg 35 := Fun.of Go.Proofs.Tryd.func35 (by decide) rfl
instance e36 : Fun Pg 36 := Fun.of Go.Proofs.Tryd.func36 (by decide) rfl
instance e37 : Fun Pg 37 := Fun.of Go.Proofs.Tryd.func37 (by decide) rfl
instance e38 : Fun Pg 38 := Fun.of Go.Proofs.Tryd.func38 (by decide) rfl
instance e39 : Fun Pg 39 := Fun.of Go.Proofs.Tryd.func39 (by decide) rfl
instance e40 : Fun Pg 40 := Fun.of Go.Proofs.Tryd.func40 (by decide) rfl
instance e41 : Fun Pg 41 := Fun.of Go.Proofs.Tryd.func41 (by decide) rfl
instance e42 : Fun Pg 42 := Fun.of Go.Proofs.Tryd.func42 (by decide) rfl
instance e43 : Fun Pg 43 := Fun.of Go.Proofs.Tryd.func43 (by decide) rfl
instance e44 : Fun Pg 44 := Fun.of Go.Proofs.Tryd.func44 (by decide) rfl
instance e45 : Fun Pg 45 := Fun.of Go.Proofs.Tryd.func45 (by decide) rfl
instance e46 : Fun Pg 46 := Fun.of Go.Proofs.Tryd.func46 (by decide) rfl
instance e47 : Fun Pg 47 := Fun.of Go.Proofs.Tryd.func47 (by decide) rfl
instance e48 : Fun Pg 48 := Fun.of Go.Proofs.Tryd.func48 (by decide) rfl
instance e49 : Fun Pg 49 := Fun.of Go.Proofs.Tryd.func49 (by decide) rfl
instance e50 : Fun Pg 50 := Fun.of Go.Proofs.Tryd.func50 (by decide) rfl
instance e51 : Fun Pg 51 := Fun.of Go.Proofs.Tryd.func51 (by decide) rfl
instance e52 : Fun Pg 52 := Fun.of Go.Proofs.Tryd.func52 (by decide) rfl
instance e53 : Fun Pg 53 := Fun.of Go.Proofs.Tryd.func53 (by decide) rfl
instance e54 : Fun Pg 54 := Fun.of Go.Proofs.Tryd.func54 (by decide) rfl
instance e55 : Fun Pg 55 := Fun.of Go.Proofs.Tryd.func55 (by decide) rfl
instance e56 : Fun Pg 56 := Fun.of Go.Proofs.Tryd.func56 (by decide) rfl
instance e57 : Fun Pg 57 := Fun.of Go.Proofs.Tryd.func57 (by decide) rfl
instance e58 : Fun Pg 58 := Fun.of Go.Proofs.Tryd.func58 (by decide) rfl
instance e59 : Fun Pg 59 := Fun.of Go.Proofs.Tryd.func59 (by decide) rfl
instance e60 : Fun Pg 60 := Fun.of Go.Proofs.Tryd.func60 (by decide) rfl
instance e61 : Fun Pg 61 := Fun.of Go.Proofs.Tryd.func61 (by decide) rfl
end Go.Proofs.Jn
